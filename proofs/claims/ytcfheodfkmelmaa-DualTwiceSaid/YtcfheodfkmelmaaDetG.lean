/- Determinants: plain words. Alternating forms of rows, and that there is but one. Determinants: products, blocks, bordered minors, sizes. Bareiss's rule: plain words. What is computed stays whole, and small. What Bareiss's rule tells of a square is its determinant. Determinants by columns, turned over, by any row: plain words. Symmetric matrices whose corners' determinants are above 0: plain words. Positive forms have corners above 0; forms in another basis: plain words. -/
import Derived.Test.YtcfheodfkmelmaaSh30
set_option linter.unusedVariables false
set_option linter.unusedSimpArgs false
namespace Go.Sh.Of
open Go
def sumZ : Nat -> (Nat -> Int) -> Int
 | 0, _ => 0
 | n + 1, g => sumZ n g + g n
theorem sumZ_congr {g h : Nat -> Int} : ∀ {n : Nat}, (∀ j, j < n -> g j = h j) -> sumZ n g = sumZ n h
 | 0, _ => rfl
 | n + 1, e => by rw [sumZ, sumZ, sumZ_congr fun j hj => e j (by omega), e n (by omega)]
theorem sumZ_add (g h : Nat -> Int) : ∀ n : Nat, sumZ n (fun j => g j + h j) = sumZ n g + sumZ n h
 | 0 => rfl
 | n + 1 => by
  rw [sumZ, sumZ, sumZ, sumZ_add g h n]
  omega
theorem sumZ_mul (c : Int) (g : Nat -> Int) : ∀ n : Nat, sumZ n (fun j => c * g j) = c * sumZ n g
 | 0 => by simp [sumZ]
 | n + 1 => by rw [sumZ, sumZ, sumZ_mul c g n, Int.mul_add]
theorem sumZ_zero {g : Nat -> Int} : ∀ {n : Nat}, (∀ j, j < n -> g j = 0) -> sumZ n g = 0
 | 0, _ => rfl
 | n + 1, h => by rw [sumZ, sumZ_zero fun j hj => h j (by omega), h n (by omega)]; rfl
theorem sumZ_one {g : Nat -> Int} {i : Nat} : ∀ {n : Nat}, i < n -> (∀ j, j < n -> j ≠ i -> g j = 0) -> sumZ n g = g i
 | 0, hi, _ => by omega
 | n + 1, hi, h => by
  rw [sumZ]
  by_cases e : i = n
  ·subst e
   rw [sumZ_zero fun j hj => h j (by omega) (by omega), Int.zero_add]
  ·rw [sumZ_one (i := i) (by omega) fun j hj hne => h j (by omega) hne, h n (by omega) (by omega), Int.add_zero]
theorem sumZ_anti (t : Nat -> Nat -> Int) : ∀ n : Nat, (∀ j k, j <= k -> k < n -> t j k = -t (k + 1) j) -> sumZ (n + 1) (fun j => sumZ n (t j)) = 0
 | 0, _ => rfl
 | n + 1, h => by
  have ih := sumZ_anti t n fun j k a b => h j k a (by omega)
  have e1 : sumZ (n + 1) (fun j => sumZ (n + 1) (t j)) = sumZ (n + 1) (fun j => sumZ n (t j)) + sumZ (n + 1) (fun j => t j n) := by
   rw [<- sumZ_add]
   rfl
  have e2 : sumZ (n + 1) (fun j => t j n) = -sumZ (n + 1) (t (n + 1)) := by
   have := sumZ_mul (-1) (t (n + 1)) (n + 1)
   rw [show -sumZ (n + 1) (t (n + 1)) = -1 * sumZ (n + 1) (t (n + 1)) by omega, <- this]
   exact sumZ_congr fun j hj => by rw [h j n (by omega) (by omega)]; omega
  rw [sumZ, e1, ih, e2]
  omega
abbrev Mx := Nat -> Nat -> Int
def alt : Nat -> Int
 | 0 => 1
 | n + 1 => -alt n
def skip (j k : Nat) : Nat := if k < j then k else k + 1
def minor (A : Mx) (j : Nat) : Mx := fun i k => A (i + 1) (skip j k)
def det : Nat -> Mx -> Int
 | 0, _ => 1
 | n + 1, A => sumZ (n + 1) fun j => alt j * (A 0 j * det n (minor A j))
def setR (A : Mx) (i : Nat) (v : Nat -> Int) : Mx := fun k => if k = i then v else A k
def unit : Mx := fun i k => if i = k then 1 else 0
theorem skip_lt {n j k : Nat} (h : k < n) : skip j k < n + 1 := by unfold skip; split <;> omega
theorem skip_ne (j k : Nat) : skip j k ≠ j := by unfold skip; split <;> omega
theorem setR_at (A : Mx) (i : Nat) (v : Nat -> Int) : setR A i v i = v := by simp [setR]
theorem setR_ne (A : Mx) {i k : Nat} (v : Nat -> Int) (h : k ≠ i) : setR A i v k = A k := by simp [setR, h]
theorem setR_self (A : Mx) (i : Nat) : setR A i (A i) = A := by
 funext k
 by_cases h : k = i
 ·rw [h, setR_at]
 ·rw [setR_ne A _ h]
theorem setR_comm (A : Mx) {i j : Nat} (h : i ≠ j) (u v : Nat -> Int) : setR (setR A i u) j v = setR (setR A j v) i u := by
 funext k
 by_cases h1 : k = i
 ·subst h1
  rw [setR_ne _ _ h, setR_at, setR_at]
 ·by_cases h2 : k = j
  ·subst h2
   rw [setR_at, setR_ne _ _ h1, setR_at]
  ·rw [setR_ne _ _ h2, setR_ne _ _ h1, setR_ne _ _ h1, setR_ne _ _ h2]
theorem minor_set0 (A : Mx) (v : Nat -> Int) (j : Nat) : minor (setR A 0 v) j = minor A j := by
 funext i k
 simp [minor, setR]
theorem minor_setS (A : Mx) (i : Nat) (v : Nat -> Int) (j : Nat) : minor (setR A (i + 1) v) j = setR (minor A j) i (fun k => v (skip j k)) := by
 funext x k
 by_cases h : x = i
 ·subst h
  rw [setR_at]
  show setR A (x + 1) v (x + 1) (skip j k) = _
  rw [setR_at]
 ·rw [setR_ne _ _ h]
  show setR A (i + 1) v (x + 1) (skip j k) = _
  rw [setR_ne _ _ (by omega)]
  rfl
theorem det_congr : ∀ {n : Nat} {A C : Mx}, (∀ i k, i < n -> k < n -> A i k = C i k) -> det n A = det n C
 | 0, _, _, _ => rfl
 | n + 1, A, C, h => by
  rw [det, det]
  refine sumZ_congr fun j hj => ?_
  have e : det n (minor A j) = det n (minor C j) := det_congr fun i k hi hk => h (i + 1) (skip j k) (by omega) (skip_lt hk)
  rw [h 0 j (by omega) hj, e]
theorem det_lin : ∀ {n i : Nat} (A : Mx) (c : Int) (u v : Nat -> Int), i < n -> det n (setR A i fun k => c * u k + v k) = c * det n (setR A i u) + det n (setR A i v)
 | 0, i, _, _, _, _, h => by omega
 | n + 1, 0, A, c, u, v, _ => by
  rw [det, det, det, <- sumZ_mul, <- sumZ_add]
  refine sumZ_congr fun j hj => ?_
  rw [minor_set0, minor_set0, minor_set0, setR_at, setR_at, setR_at, Int.add_mul, Int.mul_add, Int.mul_assoc, Int.mul_left_comm (alt j) c]
 | n + 1, i + 1, A, c, u, v, h => by
  rw [det, det, det, <- sumZ_mul, <- sumZ_add]
  refine sumZ_congr fun j hj => ?_
  rw [minor_setS, minor_setS, minor_setS, setR_ne _ _ (by omega), setR_ne _ _ (by omega), setR_ne _ _ (by omega), det_lin (minor A j) c (fun k => u (skip j k)) (fun k => v (skip j k)) (by omega), Int.mul_add, Int.mul_add, Int.mul_left_comm (A 0 j) c, Int.mul_left_comm (alt j) c]
theorem skip_skip {j k y : Nat} (h : j <= k) : skip j (skip k y) = skip (k + 1) (skip j y) := by
 unfold skip
 by_cases h1 : y < k
 ·rw [if_pos h1]
  by_cases h2 : y < j
  ·rw [if_pos h2, if_pos (by omega)]
  ·rw [if_neg h2, if_pos (by omega)]
 ·rw [if_neg h1, if_neg (show ¬ y < j by omega), if_neg (show ¬ y + 1 < j by omega), if_neg (by omega)]
theorem det_adj : ∀ {n i : Nat} (A : Mx), i + 1 < n -> (∀ k, k < n -> A i k = A (i + 1) k) -> det n A = 0
 | 0, i, _, h, _ => by omega
 | 1, i, _, h, _ => by omega
 | n + 2, 0, A, h, he => by
  have e1 : det (n + 2) A = sumZ (n + 1 + 1) (fun j => sumZ (n + 1) fun k => alt j * (A 0 j * (alt k * (A 1 (skip j k) * det n (minor (minor A j) k))))) := by
   rw [det]
   refine sumZ_congr fun j hj => ?_
   rw [sumZ_mul, sumZ_mul]
   rfl
  rw [e1]
  refine sumZ_anti _ (n + 1) fun j k hjk hk => ?_
  have e2 : skip j k = k + 1 := by unfold skip; rw [if_neg (by omega)]
  have e3 : skip (k + 1) j = j := by unfold skip; rw [if_pos (by omega)]
  have e4 : minor (minor A (k + 1)) j = minor (minor A j) k := by
   funext x y
   show A (x + 1 + 1) (skip (k + 1) (skip j y)) = A (x + 1 + 1) (skip j (skip k y))
   rw [skip_skip hjk]
  show alt j * (A 0 j * (alt k * (A 1 (skip j k) * det n (minor (minor A j) k)))) = -(alt (k + 1) * (A 0 (k + 1) * (alt j * (A 1 (skip (k + 1) j) * det n (minor (minor A (k + 1)) j)))))
  rw [e2, e3, e4, he j (by omega), he (k + 1) (by omega), alt]
  generalize det n (minor (minor A j) k) = d
  generalize alt j = p
  generalize alt k = q
  show p * (A 1 j * (q * (A 1 (k + 1) * d))) = -(-q * (A 1 (k + 1) * (p * (A 1 j * d))))
  rw [Int.neg_mul, Int.neg_neg]
  ac_rfl
 | n + 2, i + 1, A, h, he => by
  rw [det]
  refine sumZ_zero fun j hj => ?_
  rw [det_adj (i := i) (minor A j) (by omega) fun k hk => he (skip j k) (skip_lt hk), Int.mul_zero, Int.mul_zero]
structure Alt (n : Nat) (F : Mx -> Int) : Prop where
 congr : ∀ A C, (∀ i k, i < n -> k < n -> A i k = C i k) -> F A = F C
 lin : ∀ (A : Mx) (i : Nat) (c : Int) (u v : Nat -> Int), i < n -> F (setR A i fun k => c * u k + v k) = c * F (setR A i u) + F (setR A i v)
 adj : ∀ (A : Mx) (i : Nat), i + 1 < n -> (∀ k, k < n -> A i k = A (i + 1) k) -> F A = 0
theorem det_Alt (n : Nat) : Alt n (det n) := ⟨fun A C h => det_congr h, fun A i c u v h => det_lin A c u v h, fun A i h he => det_adj A h he⟩
def swR (A : Mx) (i : Nat) : Mx := fun k => if k = i then A (i + 1) else if k = i + 1 then A i else A k
theorem Alt.swap {n : Nat} {F : Mx -> Int} (h : Alt n F) (A : Mx) {i : Nat} (hi : i + 1 < n) : F (swR A i) = -F A := by
 have S : ∀ u v : Nat -> Int, F (setR (setR A i u) (i + 1) v) + F (setR (setR A i v) (i + 1) u) = 0 := fun u v => by
  have same : ∀ w : Nat -> Int, F (setR (setR A i w) (i + 1) w) = 0 := fun w => h.adj _ i hi fun k _ => by
   rw [setR_ne _ _ (show i ≠ i + 1 by omega), setR_at, setR_at]
  have h0 := same fun k => 1 * u k + v k
  rw [h.lin _ _ _ _ _ hi] at h0
  have h1 : ∀ w : Nat -> Int, F (setR (setR A i fun k => 1 * u k + v k) (i + 1) w) = F (setR (setR A i u) (i + 1) w) + F (setR (setR A i v) (i + 1) w) := fun w => by
   rw [setR_comm A (show i ≠ i + 1 by omega), h.lin _ _ _ _ _ (by omega), setR_comm A (show i ≠ i + 1 by omega), setR_comm A (show i ≠ i + 1 by omega), Int.one_mul]
  rw [h1, h1, same u, same v] at h0
  omega
 have h2 := S (A i) (A (i + 1))
 have e1 : setR (setR A i (A i)) (i + 1) (A (i + 1)) = A := by rw [setR_self, setR_self]
 have e2 : setR (setR A i (A (i + 1))) (i + 1) (A i) = swR A i := by
  funext k
  unfold swR
  by_cases h1 : k = i
  ·subst h1
   rw [setR_ne _ _ (by omega), setR_at, if_pos rfl]
  ·by_cases h3 : k = i + 1
   ·subst h3
    rw [setR_at, if_neg h1, if_pos rfl]
   ·rw [setR_ne _ _ h3, setR_ne _ _ h1, if_neg h1, if_neg h3]
 rw [e1, e2] at h2
 omega
theorem Alt.same {n : Nat} {F : Mx -> Int} (h : Alt n F) : ∀ (d p : Nat) (A : Mx), p + d + 1 < n -> (∀ k, k < n -> A p k = A (p + d + 1) k) -> F A = 0
 | 0, p, A, hp, he => h.adj A p hp he
 | d + 1, p, A, hp, he => by
  have h1 := h.swap A (i := p + d + 1) (by omega)
  have h2 := h.same d p (swR A (p + d + 1)) (by omega) fun k hk => by
   unfold swR
   rw [if_neg (by omega), if_neg (by omega), if_pos rfl]
   exact he k hk
  omega
theorem Alt.rows {n : Nat} {F : Mx -> Int} (h : Alt n F) {p q : Nat} (A : Mx) (hp : p < n) (hq : q < n) (hne : p ≠ q) (he : ∀ k, k < n -> A p k = A q k) : F A = 0 := by
 rcases Nat.lt_or_gt_of_ne hne with hlt | hlt
 ·exact h.same (q - p - 1) p A (by omega) fun k hk => by rw [show p + (q - p - 1) + 1 = q by omega]; exact he k hk
 ·exact h.same (p - q - 1) q A (by omega) fun k hk => by rw [show q + (p - q - 1) + 1 = p by omega]; exact (he k hk).symm
theorem Alt.add {n : Nat} {F : Mx -> Int} (h : Alt n F) {p q : Nat} (A : Mx) (c : Int) (hp : p < n) (hq : q < n) (hne : p ≠ q) : F (setR A p fun k => c * A q k + A p k) = F A := by
 rw [h.lin _ _ _ _ _ hp, setR_self, h.rows (setR A p (A q)) hp hq hne fun k _ => by rw [setR_at, setR_ne _ _ (Ne.symm hne)], Int.mul_zero, Int.zero_add]
theorem Alt.clear {n : Nat} {F : Mx -> Int} (h : Alt n F) {t : Nat} (ht : t < n) (w : Nat -> Int) (A : Mx) : F A = F (fun i => if i = t then A i else fun k => w i * A t k + A i k) := by
 have go : ∀ m, m <= n -> F A = F (fun i => if i = t \/ m <= i then A i else fun k => w i * A t k + A i k) := fun m => by
  induction m with
  | zero =>
   intro _
   congr 1
   funext i
   rw [if_pos (.inr (by omega))]
  | succ m ih =>
   intro hm
   rw [ih (by omega)]
   by_cases e : m = t
   ·congr 1
    funext i
    by_cases h1 : i = t
    ·rw [if_pos (.inl h1), if_pos (.inl h1)]
    ·by_cases h2 : m <= i
     ·rw [if_pos (.inr h2), if_pos (.inr (by omega))]
     ·rw [if_neg (by omega), if_neg (by omega)]
   ·have := h.add (fun i => if i = t \/ m <= i then A i else fun k => w i * A t k + A i k) (w m) (show m < n by omega) ht e
    rw [<- this]
    congr 1
    funext i
    by_cases h1 : i = m
    ·subst h1
     rw [setR_at]
     show (fun k => w i * (if t = t \/ i <= t then A t else fun k => w t * A t k + A t k) k + (if i = t \/ i <= i then A i else fun k => w i * A t k + A i k) k) = if i = t \/ i + 1 <= i then A i else fun k => w i * A t k + A i k
     rw [if_pos (show t = t \/ i <= t from .inl rfl), if_pos (show i = t \/ i <= i from .inr (Nat.le_refl _)), if_neg (show ¬ (i = t \/ i + 1 <= i) by omega)]
    ·rw [setR_ne _ _ h1]
     by_cases h2 : i = t \/ m <= i
     ·rw [if_pos h2, if_pos (by omega)]
     ·rw [if_neg h2, if_neg (by omega)]
 rw [go n (Nat.le_refl _)]
 exact h.congr _ _ fun i k hi hk => by
  by_cases h1 : i = t
  ·rw [if_pos (.inl h1), if_pos h1]
  ·rw [if_neg (by omega), if_neg h1]
theorem Alt.zero {n : Nat} {F : Mx -> Int} (h : Alt n F) (A : Mx) {i : Nat} (hi : i < n) (u : Nat -> Int) (hu : ∀ k, k < n -> u k = 0) : F (setR A i u) = 0 := by
 have h1 := h.lin A i 1 u u hi
 have h2 : F (setR A i fun k => 1 * u k + u k) = F (setR A i u) := h.congr _ _ fun x k hx hk => by
  by_cases e : x = i
  ·subst e
   rw [setR_at, setR_at, hu k hk]
   rfl
  ·rw [setR_ne _ _ e, setR_ne _ _ e]
 omega
theorem Alt.sum {n : Nat} {F : Mx -> Int} (h : Alt n F) (A : Mx) {i : Nat} (hi : i < n) (a : Nat -> Int) (v : Nat -> Nat -> Int) : ∀ m : Nat, F (setR A i fun k => sumZ m fun j => a j * v j k) = sumZ m fun j => a j * F (setR A i (v j))
 | 0 => h.zero A hi _ fun _ _ => rfl
 | m + 1 => by
  rw [sumZ, <- h.sum A hi a v m]
  have e : (fun k => sumZ (m + 1) fun j => a j * v j k) = fun k => a m * v m k + sumZ m fun j => a j * v j k := by
   funext k
   rw [sumZ]
   omega
  rw [e, h.lin _ _ _ _ _ hi]
  omega
def unskip (j k : Nat) : Nat := if k < j then k else k - 1
def ins (j : Nat) (C : Mx) : Mx := fun i => match i with
 | 0 => unit j
 | i + 1 => fun k => if k = j then 0 else C i (unskip j k)
theorem unskip_lt {n j k : Nat} (hk : k < n + 1) (hj : j < n + 1) (hne : k ≠ j) : unskip j k < n := by unfold unskip; split <;> omega
theorem skip_unskip {j k : Nat} (h : k ≠ j) : skip j (unskip j k) = k := by
 unfold skip unskip
 by_cases h1 : k < j
 ·rw [if_pos h1, if_pos h1]
 ·rw [if_neg h1, if_neg (by omega)]
  omega
theorem ins_set (j : Nat) (C : Mx) (i : Nat) (w : Nat -> Int) : ins j (setR C i w) = setR (ins j C) (i + 1) (fun k => if k = j then 0 else w (unskip j k)) := by
 funext x
 cases x with
 | zero => rw [setR_ne _ _ (by omega)]; rfl
 | succ x =>
  by_cases h : x = i
  ·subst h
   rw [setR_at]
   funext k
   show (if k = j then 0 else setR C x w x (unskip j k)) = _
   rw [setR_at]
  ·rw [setR_ne _ _ (by omega)]
   funext k
   show (if k = j then 0 else setR C i w x (unskip j k)) = _
   rw [setR_ne _ _ h]
   rfl
theorem Alt.ins {n : Nat} {F : Mx -> Int} (h : Alt (n + 1) F) {j : Nat} (hj : j < n + 1) : Alt n (fun C => F (ins j C)) := by
 refine ⟨fun A C he => h.congr _ _ fun i k hi hk => ?_, fun A i c u v hi => ?_, fun A i hi he => h.adj _ (i + 1) (by omega) fun k hk => ?_⟩
 ·cases i with
  | zero => rfl
  | succ i =>
   show (if k = j then 0 else A i (unskip j k)) = if k = j then 0 else C i (unskip j k)
   by_cases e : k = j
   ·rw [if_pos e, if_pos e]
   ·rw [if_neg e, if_neg e, he i _ (by omega) (unskip_lt hk hj e)]
 ·rw [ins_set, ins_set, ins_set, <- h.lin _ _ _ _ _ (by omega)]
  congr 2
  funext k
  by_cases e : k = j
  ·rw [if_pos e, if_pos e, if_pos e]; omega
  ·rw [if_neg e, if_neg e, if_neg e]
 ·show (if k = j then 0 else A i (unskip j k)) = if k = j then 0 else A (i + 1) (unskip j k)
  by_cases e : k = j
  ·rw [if_pos e, if_pos e]
  ·rw [if_neg e, if_neg e, he _ (unskip_lt hk hj e)]
theorem Alt.turn {n : Nat} {F : Mx -> Int} (h : Alt n F) {j : Nat} (hj : j < n) : F (fun i => if i = 0 then unit j else if i <= j then unit (i - 1) else unit i) = alt j * F unit := by
 have go : ∀ d m, m + d = j -> F (fun i => if i < m then unit i else if i = m then unit j else if i <= j then unit (i - 1) else unit i) = alt d * F unit := fun d => by
  induction d with
  | zero =>
   intro m hm
   have hm' : m = j := by omega
   subst hm'
   rw [alt, Int.one_mul]
   congr 1
   funext i
   by_cases h1 : i < m
   ·rw [if_pos h1]
   ·rw [if_neg h1]
    by_cases h2 : i = m
    ·rw [if_pos h2, h2]
    ·rw [if_neg h2, if_neg (by omega)]
  | succ d ih =>
   intro m hm
   have h1 := ih (m + 1) (by omega)
   have h2 := h.swap (fun i => if i < m then unit i else if i = m then unit j else if i <= j then unit (i - 1) else unit i) (i := m) (by omega)
   have e : swR (fun i => if i < m then unit i else if i = m then unit j else if i <= j then unit (i - 1) else unit i) m = fun i => if i < m + 1 then unit i else if i = m + 1 then unit j else if i <= j then unit (i - 1) else unit i := by
    funext i
    show (if i = m then (if m + 1 < m then unit (m + 1) else if m + 1 = m then unit j else if m + 1 <= j then unit (m + 1 - 1) else unit (m + 1)) else if i = m + 1 then (if m < m then unit m else if m = m then unit j else if m <= j then unit (m - 1) else unit m) else (if i < m then unit i else if i = m then unit j else if i <= j then unit (i - 1) else unit i)) = (if i < m + 1 then unit i else if i = m + 1 then unit j else if i <= j then unit (i - 1) else unit i)
    by_cases a1 : i = m
    ·subst a1
     rw [if_pos rfl, if_neg (by omega), if_neg (by omega), if_pos (by omega), if_pos (by omega), Nat.add_sub_cancel]
    ·by_cases a2 : i = m + 1
     ·subst a2
      rw [if_neg (by omega), if_pos rfl, if_neg (by omega), if_pos rfl, if_neg (by omega), if_pos rfl]
     ·rw [if_neg a1, if_neg a2]
      by_cases a3 : i < m
      ·rw [if_pos a3, if_pos (by omega)]
      ·rw [if_neg a3, if_neg a1, if_neg (show ¬ i < m + 1 by omega), if_neg a2]
   rw [e, h1] at h2
   rw [alt]
   rw [Int.neg_mul]
   omega
 have := go j 0 (by omega)
 rw [<- this]
 congr 1
theorem Alt.uniq : ∀ {n : Nat} {F : Mx -> Int}, Alt n F -> ∀ A, F A = det n A * F unit
 | 0, F, h, A => by
  rw [det, Int.one_mul]
  exact h.congr _ _ fun i k hi => by omega
 | n + 1, F, h, A => by
  have h1 : F A = sumZ (n + 1) fun j => A 0 j * F (setR A 0 (unit j)) := by
   rw [<- h.sum A (by omega) (A 0) unit (n + 1)]
   refine h.congr _ _ fun i k hi hk => ?_
   by_cases e : i = 0
   ·subst e
    rw [setR_at, sumZ_one (i := k) hk fun j _ hne => by simp [unit, hne]]
    simp [unit]
   ·rw [setR_ne _ _ e]
  rw [h1, det]
  have h2 : ∀ j, j < n + 1 -> F (setR A 0 (unit j)) = det n (minor A j) * (alt j * F unit) := fun j hj => by
   have e1 := h.clear (t := 0) (by omega) (fun i => -A i j) (setR A 0 (unit j))
   have e2 : F (fun i => if i = 0 then setR A 0 (unit j) i else fun k => -A i j * setR A 0 (unit j) 0 k + setR A 0 (unit j) i k) = F (Go.Sh.Of.ins j (minor A j)) := h.congr _ _ fun i k hi hk => by
    cases i with
    | zero =>
     rw [if_pos rfl, setR_at]
     rfl
    | succ i =>
     rw [if_neg (by omega), setR_at, setR_ne _ _ (by omega)]
     show _ = if k = j then 0 else minor A j i (unskip j k)
     by_cases e : k = j
     ·subst e
      rw [if_pos rfl]
      simp [unit]
      omega
     ·rw [if_neg e]
      have : unit j k = 0 := by simp [unit, Ne.symm e]
      show -A (i + 1) j * unit j k + A (i + 1) k = A (i + 1) (skip j (unskip j k))
      rw [this, skip_unskip e]
      omega
   rw [e1, e2, Alt.uniq (h.ins hj) (minor A j)]
   congr 1
   rw [<- h.turn hj]
   refine h.congr _ _ fun i k hi hk => ?_
   cases i with
   | zero => rfl
   | succ i =>
    show (if k = j then 0 else unit i (unskip j k)) = (if i + 1 = 0 then unit j else if i + 1 <= j then unit (i + 1 - 1) else unit (i + 1)) k
    rw [if_neg (show ¬ (i + 1 = 0) by omega)]
    unfold unit unskip
    by_cases a1 : i + 1 <= j
    ·rw [if_pos a1, Nat.add_sub_cancel]
     by_cases a2 : k = j
     ·rw [if_pos a2, if_neg (by omega)]
     ·rw [if_neg a2]
      by_cases a3 : k < j
      ·rw [if_pos a3]
      ·rw [if_neg a3, if_neg (by omega), if_neg (by omega)]
    ·rw [if_neg a1]
     by_cases a2 : k = j
     ·rw [if_pos a2, if_neg (by omega)]
     ·rw [if_neg a2]
      by_cases a3 : k < j
      ·rw [if_pos a3, if_neg (by omega), if_neg (by omega)]
      ·rw [if_neg a3]
       by_cases a4 : i = k - 1
       ·rw [if_pos a4, if_pos (by omega)]
       ·rw [if_neg a4, if_neg (by omega)]
  rw [Int.mul_comm (sumZ _ _), <- sumZ_mul]
  refine sumZ_congr fun j hj => ?_
  rw [h2 j hj]
  generalize det n (minor A j) = d
  generalize F unit = f
  generalize alt j = p
  generalize A 0 j = a
  rw [Int.mul_left_comm d p f, Int.mul_left_comm a p, Int.mul_left_comm f p, Int.mul_comm f, Int.mul_assoc]
end Go.Sh.Of
namespace Go.Sh.Of
open Go
theorem det_unit : ∀ n : Nat, det n unit = 1
 | 0 => rfl
 | n + 1 => by
  rw [det, sumZ_one (i := 0) (by omega) fun j _ hne => by simp [unit, Ne.symm hne]]
  have e : det n (minor unit 0) = det n unit := det_congr fun i k hi hk => by
   show unit (i + 1) (skip 0 k) = unit i k
   unfold skip unit
   rw [if_neg (Nat.not_lt_zero k)]
   by_cases h : i = k
   ·rw [if_pos h, if_pos (by omega)]
   ·rw [if_neg h, if_neg (by omega)]
  rw [e, det_unit n]
  rfl
def mulX (n : Nat) (A C : Mx) : Mx := fun i k => sumZ n fun t => A i t * C t k
theorem mulX_set (n : Nat) (A C : Mx) (i : Nat) (w : Nat -> Int) : mulX n (setR A i w) C = setR (mulX n A C) i fun k => sumZ n fun t => w t * C t k := by
 funext x
 by_cases h : x = i
 ·subst h
  rw [setR_at]
  funext k
  show sumZ n (fun t => setR A x w x t * C t k) = _
  rw [setR_at]
 ·rw [setR_ne _ _ h]
  funext k
  show sumZ n (fun t => setR A i w x t * C t k) = _
  rw [setR_ne _ _ h]
  rfl
theorem mul_Alt (n : Nat) (C : Mx) : Alt n (fun A => det n (mulX n A C)) := by
 refine ⟨fun A A' h => det_congr fun i k hi hk => sumZ_congr fun t ht => by rw [h i t hi ht], fun A i c u v hi => ?_, fun A i hi he => det_adj _ hi fun k hk => sumZ_congr fun t ht => by rw [he t ht]⟩
 rw [mulX_set, mulX_set, mulX_set, <- det_lin _ _ _ _ hi]
 congr 2
 funext k
 rw [<- sumZ_mul, <- sumZ_add]
 exact sumZ_congr fun t ht => by rw [Int.add_mul, Int.mul_assoc]
theorem det_mul (n : Nat) (A C : Mx) : det n (mulX n A C) = det n A * det n C := by
 rw [(mul_Alt n C).uniq A]
 congr 1
 exact det_congr fun i k hi hk => by
  show sumZ n (fun t => unit i t * C t k) = _
  rw [sumZ_one (i := i) hi fun j _ hne => by simp [unit, Ne.symm hne]]
  simp [unit]
theorem block_Alt (r s : Nat) (M : Mx) : Alt r (fun X => det (r + s) (fun i k => if i < r then (if k < r then X i k else 0) else M i k)) := by
 refine ⟨fun A C h => det_congr fun i k hi hk => ?_, fun A i c u v hi => ?_, fun A i hi he => det_adj (i := i) _ (by omega) fun k hk => ?_⟩
 ·by_cases h1 : i < r
  ·rw [if_pos h1, if_pos h1]
   by_cases h2 : k < r
   ·rw [if_pos h2, if_pos h2, h i k h1 h2]
   ·rw [if_neg h2, if_neg h2]
  ·rw [if_neg h1, if_neg h1]
 ·have e : ∀ w : Nat -> Int, (fun x k => if x < r then (if k < r then setR A i w x k else 0) else M x k) = setR (fun x k => if x < r then (if k < r then A x k else 0) else M x k) i (fun k => if k < r then w k else 0) := fun w => by
   funext x
   by_cases h : x = i
   ·subst h
    rw [setR_at, setR_at]
    funext k
    rw [if_pos hi]
   ·rw [setR_ne _ _ h, setR_ne _ _ h]
  rw [e, e, e, <- det_lin _ _ _ _ (by omega)]
  congr 2
  funext k
  by_cases h : k < r
  ·rw [if_pos h, if_pos h, if_pos h]
  ·rw [if_neg h, if_neg h, if_neg h]; omega
 ·show (if i < r then (if k < r then A i k else 0) else M i k) = if i + 1 < r then (if k < r then A (i + 1) k else 0) else M (i + 1) k
  rw [if_pos (by omega), if_pos hi]
  by_cases h : k < r
  ·rw [if_pos h, if_pos h, he k h]
  ·rw [if_neg h, if_neg h]
theorem low_Alt (r s : Nat) : Alt s (fun Y => det (r + s) (fun i k => if i < r then unit i k else if k < r then 0 else Y (i - r) (k - r))) := by
 refine ⟨fun A C h => det_congr fun i k hi hk => ?_, fun A i c u v hi => ?_, fun A i hi he => det_adj (i := r + i) _ (by omega) fun k hk => ?_⟩
 ·by_cases h1 : i < r
  ·rw [if_pos h1, if_pos h1]
  ·rw [if_neg h1, if_neg h1]
   by_cases h2 : k < r
   ·rw [if_pos h2, if_pos h2]
   ·rw [if_neg h2, if_neg h2, h _ _ (by omega) (by omega)]
 ·have e : ∀ w : Nat -> Int, (fun x k => if x < r then unit x k else if k < r then 0 else setR A i w (x - r) (k - r)) = setR (fun x k => if x < r then unit x k else if k < r then 0 else A (x - r) (k - r)) (r + i) (fun k => if k < r then 0 else w (k - r)) := fun w => by
   funext x
   by_cases h : x = r + i
   ·subst h
    rw [setR_at]
    funext k
    rw [if_neg (show ¬ r + i < r by omega), show r + i - r = i by omega, setR_at]
   ·rw [setR_ne _ _ h]
    funext k
    by_cases h1 : x < r
    ·rw [if_pos h1, if_pos h1]
    ·rw [if_neg h1, if_neg h1, setR_ne _ _ (by omega)]
  rw [e, e, e, <- det_lin _ _ _ _ (by omega)]
  congr 2
  funext k
  by_cases h : k < r
  ·rw [if_pos h, if_pos h, if_pos h]; omega
  ·rw [if_neg h, if_neg h, if_neg h]
 ·show (if r + i < r then unit (r + i) k else if k < r then 0 else A (r + i - r) (k - r)) = if r + i + 1 < r then unit (r + i + 1) k else if k < r then 0 else A (r + i + 1 - r) (k - r)
  rw [if_neg (show ¬ r + i < r by omega), if_neg (show ¬ r + i + 1 < r by omega)]
  by_cases h : k < r
  ·rw [if_pos h, if_pos h]
  ·rw [if_neg h, if_neg h, show r + i - r = i by omega, show r + i + 1 - r = i + 1 by omega, he _ (by omega)]
theorem det_block (r s : Nat) (M : Mx) (h0 : ∀ i k, i < r -> r <= k -> k < r + s -> M i k = 0) : det (r + s) M = det r M * det s (fun i k => M (r + i) (r + k)) := by
 have h1 := (block_Alt r s M).uniq M
 have e1 : det (r + s) (fun i k => if i < r then (if k < r then M i k else 0) else M i k) = det (r + s) M := det_congr fun i k hi hk => by
  by_cases a : i < r
  ·rw [if_pos a]
   by_cases b : k < r
   ·rw [if_pos b]
   ·rw [if_neg b, h0 i k a (by omega) hk]
  ·rw [if_neg a]
 have h1' : det (r + s) (fun i k => if i < r then (if k < r then M i k else 0) else M i k) = det r M * det (r + s) (fun i k => if i < r then (if k < r then unit i k else 0) else M i k) := h1
 rw [e1] at h1'
 rw [h1']
 congr 1
 have go : ∀ m, m <= r -> det (r + s) (fun i k => if i < r then (if k < r then unit i k else 0) else M i k) = det (r + s) (fun i k => if i < r then unit i k else if k < m then 0 else M i k) := fun m => by
  induction m with
  | zero =>
   intro _
   refine det_congr fun i k hi hk => ?_
   by_cases a : i < r
   ·rw [if_pos a, if_pos a]
    by_cases b : k < r
    ·rw [if_pos b]
    ·rw [if_neg b]
     unfold unit
     rw [if_neg (by omega)]
   ·rw [if_neg a, if_neg a, if_neg (by omega)]
  | succ m ih =>
   intro hm
   rw [ih (by omega), (det_Alt (r + s)).clear (t := m) (by omega) (fun i => if i < r then 0 else -M i m)]
   refine det_congr fun i k hi hk => ?_
   by_cases a : i < r
   ·by_cases b : i = m
    ·rw [if_pos b]
     simp only [if_pos a]
    ·rw [if_neg b]
     simp only [if_pos a, Int.zero_mul, Int.zero_add]
   ·rw [if_neg (show i ≠ m by omega)]
    simp only [if_neg a, if_pos (show m < r by omega)]
    unfold unit
    by_cases b : k < m
    ·rw [if_pos b, if_pos (show k < m + 1 by omega), if_neg (show m ≠ k by omega)]
     omega
    ·rw [if_neg b]
     by_cases c : m = k
     ·subst c
      rw [if_pos rfl, if_pos (show m < m + 1 by omega)]
      omega
     ·rw [if_neg c, if_neg (show ¬ k < m + 1 by omega)]
      omega
 rw [go r (Nat.le_refl _)]
 have h2 := (low_Alt r s).uniq (fun i k => M (r + i) (r + k))
 have e2 : det (r + s) (fun i k => if i < r then unit i k else if k < r then 0 else unit (i - r) (k - r)) = 1 := by
  rw [<- det_unit (r + s)]
  refine det_congr fun i k hi hk => ?_
  by_cases a : i < r
  ·rw [if_pos a]
  ·rw [if_neg a]
   unfold unit
   by_cases b : k < r
   ·rw [if_pos b, if_neg (by omega)]
   ·rw [if_neg b]
    by_cases c : i = k
    ·rw [if_pos c, if_pos (by omega)]
    ·rw [if_neg c, if_neg (by omega)]
 have h2' : det (r + s) (fun i k => if i < r then unit i k else if k < r then 0 else M (r + (i - r)) (r + (k - r))) = det s (fun i k => M (r + i) (r + k)) * det (r + s) (fun i k => if i < r then unit i k else if k < r then 0 else unit (i - r) (k - r)) := h2
 rw [e2, Int.mul_one] at h2'
 rw [<- h2']
 refine det_congr fun i k hi hk => ?_
 by_cases a : i < r
 ·rw [if_pos a, if_pos a]
 ·rw [if_neg a, if_neg a]
  by_cases b : k < r
  ·rw [if_pos b, if_pos b]
  ·rw [if_neg b, if_neg b, show r + (i - r) = i by omega, show r + (k - r) = k by omega]
theorem det_two (A : Mx) : det 2 A = A 0 0 * A 1 1 - A 0 1 * A 1 0 := by
 show (0 + 1 * (A 0 0 * (0 + 1 * (A 1 1 * 1)))) + -1 * (A 0 1 * (0 + 1 * (A 1 0 * 1))) = _
 simp only [Int.zero_add, Int.one_mul, Int.mul_one, Int.neg_mul]
 omega
def bord (r : Nat) (c : Nat -> Nat) (A : Mx) (i k : Nat) : Mx := fun x y => A (if x < r then x else i) (if y < r then c y else k)
def bdet (r : Nat) (c : Nat -> Nat) (A : Mx) (i k : Nat) : Int := det (r + 1) (bord r c A i k)
def pdet (r : Nat) (c : Nat -> Nat) (A : Mx) : Int := det r fun x y => A x (c y)
theorem last_unit (r : Nat) (T : Mx) : det (r + 1) (setR T r (unit r)) = det r T := by
 have h := (det_Alt (r + 1)).clear (t := r) (by omega) (fun i => -T i r) (setR T r (unit r))
 rw [h]
 have e : det (r + 1) (fun i => if i = r then setR T r (unit r) i else fun k => -T i r * setR T r (unit r) r k + setR T r (unit r) i k) = det (r + 1) (fun i k => if i < r then (if k < r then T i k else 0) else unit i k) := det_congr fun i k hi hk => by
  by_cases a : i = r
  ·subst a
   rw [if_pos rfl, if_neg (by omega), setR_at]
  ·rw [if_neg a, if_pos (by omega), setR_at, setR_ne _ _ a]
   unfold unit
   by_cases b : k < r
   ·rw [if_pos b, if_neg (by omega)]
    omega
   ·have : k = r := by omega
    subst this
    rw [if_pos rfl, if_neg b]
    omega
 rw [e, det_block r 1 _ fun i k hi hk hk2 => by rw [if_pos hi, if_neg (by omega)]]
 have e2 : det 1 (fun i k => (fun i k => if i < r then (if k < r then T i k else 0) else unit i k) (r + i) (r + k)) = 1 := by
  rw [<- det_unit 1]
  refine det_congr fun i k hi hk => ?_
  have hi0 : i = 0 := by omega
  have hk0 : k = 0 := by omega
  subst hi0 hk0
  show (if r + 0 < r then (if r + 0 < r then T (r + 0) (r + 0) else 0) else unit (r + 0) (r + 0)) = unit 0 0
  rw [if_neg (by omega)]
  simp [unit]
 rw [e2, Int.mul_one]
 exact det_congr fun i k hi hk => by rw [if_pos hi, if_pos hk]
theorem last_sum (r : Nat) (T : Mx) (x : Nat -> Int) : det (r + 1) (setR T r x) = sumZ r (fun t => x t * det (r + 1) (setR T r (unit t))) + x r * det r T := by
 have h := (det_Alt (r + 1)).sum T (i := r) (by omega) x unit (r + 1)
 rw [sumZ, last_unit] at h
 rw [<- h]
 refine (det_Alt (r + 1)).congr _ _ fun i k hi hk => ?_
 by_cases a : i = r
 ·subst a
  rw [setR_at, setR_at, sumZ_one (i := k) hk fun j _ hne => by simp [unit, hne]]
  simp [unit]
 ·rw [setR_ne _ _ a, setR_ne _ _ a]
theorem sylvester (r : Nat) (M : Mx) (hP : det r M ≠ 0) : det (r + 1) (setR M r (M r)) * det (r + 1) (fun x y => M (if x < r then x else r + 1) (if y < r then y else r + 1)) - det (r + 1) (fun x y => M x (if y < r then y else r + 1)) * det (r + 1) (fun x y => M (if x < r then x else r + 1) y) = det r M * det (r + 2) M := by
 have key : ∀ (γ : Nat) (x : Nat -> Int), r <= γ -> sumZ r (fun t => x t * det (r + 1) (setR (fun a y => M a (if y < r then y else γ)) r (unit t))) + x γ * det r M = det (r + 1) (setR (fun a y => M a (if y < r then y else γ)) r (fun y => x (if y < r then y else γ))) := fun γ x hγ => by
  rw [last_sum r (fun a y => M a (if y < r then y else γ)) fun y => x (if y < r then y else γ)]
  congr 1
  ·refine sumZ_congr fun t ht => ?_
   rw [if_pos ht]
  ·rw [if_neg (by omega)]
   congr 1
   exact det_congr fun i k hi hk => by rw [if_pos hk]
 obtain ⟨C, hC⟩ : ∃ C : Nat -> Nat -> Int, ∀ γ t, C γ t = det (r + 1) (setR (fun a y => M a (if y < r then y else γ)) r (unit t)) := ⟨_, fun _ _ => rfl⟩
 obtain ⟨Q, hQ⟩ : ∃ Q : Mx, ∀ i k, Q i k = if i < r then (if k < r then unit i k else C k i) else if i = k then det r M else 0 := ⟨_, fun _ _ => rfl⟩
 obtain ⟨Dd, hD⟩ : ∃ Dd : Nat -> Nat -> Int, ∀ i γ, Dd i γ = det (r + 1) (setR (fun a y => M a (if y < r then y else γ)) r (fun y => M i (if y < r then y else γ))) := ⟨_, fun _ _ => rfl⟩
 have Q1 : ∀ i k, i < r -> k < r -> Q i k = unit i k := fun i k h1 h2 => by rw [hQ, if_pos h1, if_pos h2]
 have Q2 : ∀ i k, i < r -> ¬ k < r -> Q i k = C k i := fun i k h1 h2 => by rw [hQ, if_pos h1, if_neg h2]
 have Q3 : ∀ i, ¬ i < r -> Q i i = det r M := fun i h1 => by rw [hQ, if_neg h1, if_pos rfl]
 have Q4 : ∀ i k, ¬ i < r -> i ≠ k -> Q i k = 0 := fun i k h1 h2 => by rw [hQ, if_neg h1, if_neg h2]
 have hMQ : ∀ i k, i < r + 2 -> k < r + 2 -> mulX (r + 2) M Q i k = if k < r then M i k else Dd i k := fun i k hi hk => by
  show sumZ (r + 2) (fun t => M i t * Q t k) = _
  by_cases a : k < r
  ·rw [if_pos a, sumZ_one (i := k) hk fun j hj hne => by
    by_cases b : j < r
    ·rw [Q1 j k b a]
     unfold unit
     rw [if_neg hne, Int.mul_zero]
    ·rw [Q4 j k b hne, Int.mul_zero]]
   rw [Q1 k k a a]
   unfold unit
   rw [if_pos rfl, Int.mul_one]
  ·rw [if_neg a, sumZ, sumZ]
   have e1 : sumZ r (fun t => M i t * Q t k) = sumZ r (fun t => M i t * det (r + 1) (setR (fun a y => M a (if y < r then y else k)) r (unit t))) := sumZ_congr fun t ht => by rw [Q2 t k ht a, hC]
   have e2 : M i r * Q r k + M i (r + 1) * Q (r + 1) k = M i k * det r M := by
    by_cases b : k = r
    ·subst b
     rw [Q3 k a, Q4 (k + 1) k (by omega) (by omega)]
     omega
    ·have : k = r + 1 := by omega
     subst this
     rw [Q3 (r + 1) a, Q4 r (r + 1) (by omega) (by omega)]
     omega
   have e3 := key k (M i) (by omega)
   rw [hD, <- e3, e1, Int.add_assoc, e2]
 have hz : ∀ i k, i < r -> r <= k -> Dd i k = 0 := fun i k hi hk => by
  rw [hD]
  exact (det_Alt (r + 1)).rows _ (show i < r + 1 by omega) (show r < r + 1 by omega) (by omega) fun y hy => by
   rw [setR_ne _ _ (by omega), setR_at]
 have hdQ : det (r + 2) Q = det r M * det r M := by
  have l1 : det (r + 2) Q = det r M * det (r + 2) (setR Q (r + 1) (unit (r + 1))) := by
   have := det_lin Q (det r M) (unit (r + 1)) (fun _ => 0) (show r + 1 < r + 2 by omega)
   rw [(det_Alt (r + 2)).zero Q (by omega) (fun _ => 0) (fun _ _ => rfl), Int.add_zero] at this
   rw [<- this]
   refine det_congr fun i k hi hk => ?_
   by_cases a : i = r + 1
   ·subst a
    rw [setR_at]
    unfold unit
    by_cases b : r + 1 = k
    ·rw [if_pos b, <- b, Q3 _ (by omega)]
     omega
    ·rw [if_neg b, Q4 _ _ (by omega) b]
     omega
   ·rw [setR_ne _ _ a]
  have l2 : det (r + 2) (setR Q (r + 1) (unit (r + 1))) = det r M * det (r + 2) (setR (setR Q (r + 1) (unit (r + 1))) r (unit r)) := by
   have := det_lin (setR Q (r + 1) (unit (r + 1))) (det r M) (unit r) (fun _ => 0) (show r < r + 2 by omega)
   rw [(det_Alt (r + 2)).zero _ (by omega) (fun _ => 0) (fun _ _ => rfl), Int.add_zero] at this
   rw [<- this]
   refine det_congr fun i k hi hk => ?_
   by_cases a : i = r
   ·subst a
    rw [setR_at, setR_ne _ _ (show i ≠ i + 1 by omega)]
    unfold unit
    by_cases b : i = k
    ·rw [if_pos b, <- b, Q3 _ (by omega)]
     omega
    ·rw [if_neg b, Q4 _ _ (by omega) b]
     omega
   ·rw [setR_ne _ _ a]
  have l3 : det (r + 2) (setR (setR Q (r + 1) (unit (r + 1))) r (unit r)) = 1 := by
   rw [(det_Alt (r + 2)).clear (t := r) (by omega) (fun i => if i < r then -C r i else 0), (det_Alt (r + 2)).clear (t := r + 1) (by omega) (fun i => if i < r then -C (r + 1) i else 0), <- det_unit (r + 2)]
   refine det_congr fun i k hi hk => ?_
   by_cases a : i < r
   ·have a1 : i ≠ r + 1 := by omega
    have a2 : i ≠ r := by omega
    rw [if_neg a1, if_neg a2, if_neg (show r + 1 ≠ r by omega), if_pos a, if_pos a]
    simp only [if_neg (show ¬ r + 1 < r by omega), setR_ne _ _ (show r + 1 ≠ r by omega), setR_at, setR_ne _ _ a1, setR_ne _ _ a2, Int.zero_mul, Int.zero_add]
    by_cases b : k < r
    ·have b1 : r ≠ k := by omega
     have b2 : r + 1 ≠ k := by omega
     rw [Q1 i k a b]
     unfold unit
     rw [if_neg b1, if_neg b2]
     omega
    ·rw [Q2 i k a b]
     unfold unit
     rw [if_neg (show i ≠ k by omega)]
     by_cases b1 : k = r
     ·subst b1
      rw [if_neg (show k + 1 ≠ k by omega), if_pos rfl]
      omega
     ·have b2 : k = r + 1 := by omega
      subst b2
      rw [if_pos rfl, if_neg (show r ≠ r + 1 by omega)]
      omega
   ·by_cases a1 : i = r
    ·subst a1
     simp [setR]
    ·have a2 : i = r + 1 := by omega
     subst a2
     have h9 : ¬ r + 1 < r := by omega
     simp [setR, h9]
  rw [l1, l2, l3, Int.mul_one]
 have hdet := det_mul (r + 2) M Q
 rw [hdQ] at hdet
 have hbl : det (r + 2) (mulX (r + 2) M Q) = det r M * (Dd r r * Dd (r + 1) (r + 1) - Dd r (r + 1) * Dd (r + 1) r) := by
  have e1 : det (r + 2) (mulX (r + 2) M Q) = det (r + 2) (fun i k => if k < r then M i k else Dd i k) := det_congr hMQ
  rw [e1, det_block r 2 _ fun i k hi hk hk2 => by
   show (if k < r then M i k else Dd i k) = 0
   rw [if_neg (by omega), hz i k hi hk]]
  rw [det_two]
  have e2 : det r (fun i k => if k < r then M i k else Dd i k) = det r M := det_congr fun i k hi hk => by rw [if_pos hk]
  rw [e2]
  congr 1
  have h9 : ¬ r + 1 < r := by omega
  simp [h9]
 rw [hbl] at hdet
 have h3 : Dd r r * Dd (r + 1) (r + 1) - Dd r (r + 1) * Dd (r + 1) r = det r M * det (r + 2) M := by
  have h4 : det r M * (Dd r r * Dd (r + 1) (r + 1) - Dd r (r + 1) * Dd (r + 1) r) = det r M * (det r M * det (r + 2) M) := by
   rw [hdet]
   ac_rfl
  exact Int.eq_of_mul_eq_mul_left hP h4
 have f1 : Dd r r = det (r + 1) (setR M r (M r)) := by
  rw [hD]
  refine det_congr fun i k hi hk => ?_
  by_cases a : i = r
  ·subst a
   rw [setR_at, setR_at]
   by_cases b : k < i
   ·rw [if_pos b]
   ·rw [if_neg b, show k = i by omega]
  ·rw [setR_ne _ _ a, setR_ne _ _ a]
   by_cases b : k < r
   ·rw [if_pos b]
   ·rw [if_neg b, show k = r by omega]
 have f2 : Dd (r + 1) (r + 1) = det (r + 1) (fun x y => M (if x < r then x else r + 1) (if y < r then y else r + 1)) := by
  rw [hD]
  refine det_congr fun i k hi hk => ?_
  by_cases a : i = r
  ·subst a
   rw [setR_at, if_neg (show ¬ i < i by omega)]
  ·rw [setR_ne _ _ a, if_pos (show i < r by omega)]
 have f3 : Dd r (r + 1) = det (r + 1) (fun x y => M x (if y < r then y else r + 1)) := by
  rw [hD]
  refine det_congr fun i k hi hk => ?_
  by_cases a : i = r
  ·subst a
   rw [setR_at]
  ·rw [setR_ne _ _ a]
 have f4 : Dd (r + 1) r = det (r + 1) (fun x y => M (if x < r then x else r + 1) y) := by
  rw [hD]
  refine det_congr fun i k hi hk => ?_
  have e : (if k < r then k else r) = k := by
   by_cases b : k < r
   ·rw [if_pos b]
   ·rw [if_neg b]; omega
  by_cases a : i = r
  ·subst a
   rw [setR_at, e, if_neg (show ¬ i < i by omega)]
  ·rw [setR_ne _ _ a, e, if_pos (show i < r by omega)]
 rw [<- f1, <- f2, <- f3, <- f4]
 exact h3
theorem bord_step (r : Nat) (c : Nat -> Nat) (A : Mx) (i j k : Nat) (hP : pdet r c A ≠ 0) : bdet r c A r j * bdet r c A i k - bdet r c A i j * bdet r c A r k = pdet r c A * bdet (r + 1) (fun y => if y = r then j else c y) A i k := by
 have h := sylvester r (fun x y => A (if x < r + 1 then x else i) (if y < r then c y else if y = r then j else k)) (by
  have : det r (fun x y => A (if x < r + 1 then x else i) (if y < r then c y else if y = r then j else k)) = pdet r c A := det_congr fun x y hx hy => by rw [if_pos (by omega), if_pos hy]
  rw [this]
  exact hP)
 rw [setR_self] at h
 have e0 : det r (fun x y => A (if x < r + 1 then x else i) (if y < r then c y else if y = r then j else k)) = pdet r c A := det_congr fun x y hx hy => by rw [if_pos (by omega), if_pos hy]
 have e1 : det (r + 1) (fun x y => A (if x < r + 1 then x else i) (if y < r then c y else if y = r then j else k)) = bdet r c A r j := det_congr fun x y hx hy => by
  show A _ _ = A (if x < r then x else r) (if y < r then c y else j)
  rw [if_pos hx]
  congr 1
  ·by_cases a : x < r
   ·rw [if_pos a]
   ·rw [if_neg a]; omega
  ·by_cases a : y < r
   ·rw [if_pos a, if_pos a]
   ·rw [if_neg a, if_neg a, if_pos (by omega)]
 have e2 : det (r + 1) (fun x y => (fun x y => A (if x < r + 1 then x else i) (if y < r then c y else if y = r then j else k)) (if x < r then x else r + 1) (if y < r then y else r + 1)) = bdet r c A i k := det_congr fun x y hx hy => by
  show A (if (if x < r then x else r + 1) < r + 1 then (if x < r then x else r + 1) else i) (if (if y < r then y else r + 1) < r then c (if y < r then y else r + 1) else if (if y < r then y else r + 1) = r then j else k) = A (if x < r then x else i) (if y < r then c y else k)
  congr 1
  ·by_cases a : x < r
   ·rw [if_pos a, if_pos (by omega), if_pos a]
   ·rw [if_neg a, if_neg (by omega), if_neg a]
  ·by_cases a : y < r
   ·rw [if_pos a, if_pos a, if_pos a]
   ·rw [if_neg a, if_neg (by omega), if_neg (by omega), if_neg a]
 have e3 : det (r + 1) (fun x y => (fun x y => A (if x < r + 1 then x else i) (if y < r then c y else if y = r then j else k)) x (if y < r then y else r + 1)) = bdet r c A r k := det_congr fun x y hx hy => by
  show A (if x < r + 1 then x else i) (if (if y < r then y else r + 1) < r then c (if y < r then y else r + 1) else if (if y < r then y else r + 1) = r then j else k) = A (if x < r then x else r) (if y < r then c y else k)
  congr 1
  ·rw [if_pos hx]
   by_cases a : x < r
   ·rw [if_pos a]
   ·rw [if_neg a]; omega
  ·by_cases a : y < r
   ·rw [if_pos a, if_pos a, if_pos a]
   ·rw [if_neg a, if_neg (by omega), if_neg (by omega), if_neg a]
 have e4 : det (r + 1) (fun x y => (fun x y => A (if x < r + 1 then x else i) (if y < r then c y else if y = r then j else k)) (if x < r then x else r + 1) y) = bdet r c A i j := det_congr fun x y hx hy => by
  show A (if (if x < r then x else r + 1) < r + 1 then (if x < r then x else r + 1) else i) (if y < r then c y else if y = r then j else k) = A (if x < r then x else i) (if y < r then c y else j)
  congr 1
  ·by_cases a : x < r
   ·rw [if_pos a, if_pos (by omega), if_pos a]
   ·rw [if_neg a, if_neg (by omega), if_neg a]
  ·by_cases a : y < r
   ·rw [if_pos a, if_pos a]
   ·rw [if_neg a, if_neg a, if_pos (by omega)]
 have e5 : det (r + 2) (fun x y => A (if x < r + 1 then x else i) (if y < r then c y else if y = r then j else k)) = bdet (r + 1) (fun y => if y = r then j else c y) A i k := det_congr fun x y hx hy => by
  show A (if x < r + 1 then x else i) (if y < r then c y else if y = r then j else k) = A (if x < r + 1 then x else i) (if y < r + 1 then (if y = r then j else c y) else k)
  congr 1
  by_cases a : y < r
  ·rw [if_pos a, if_pos (by omega), if_neg (by omega)]
  ·rw [if_neg a]
   by_cases b : y = r
   ·rw [if_pos b, if_pos (by omega), if_pos b]
   ·rw [if_neg b, if_neg (by omega)]
 rw [e0, e1, e2, e3, e4, e5] at h
 rw [<- h]
 congr 1
 exact Int.mul_comm _ _
theorem natAbs_sum {g : Nat -> Int} {b : Nat} : ∀ {n : Nat}, (∀ j, j < n -> (g j).natAbs <= b) -> (sumZ n g).natAbs <= n * b
 | 0, _ => by simp [sumZ]
 | n + 1, h => by
  have h1 := natAbs_sum (n := n) fun j hj => h j (by omega)
  have h2 := h n (by omega)
  rw [sumZ, Nat.add_mul, Nat.one_mul]
  exact Nat.le_trans (Int.natAbs_add_le _ _) (Nat.add_le_add h1 h2)
theorem alt_abs : ∀ n : Nat, (alt n).natAbs = 1
 | 0 => rfl
 | n + 1 => by rw [alt, Int.natAbs_neg, alt_abs n]
theorem det_abs {N c : Nat} : ∀ {s : Nat} {A : Mx}, s <= N -> (∀ i k, i < s -> k < s -> (A i k).natAbs <= c) -> (det s A).natAbs <= (N * c) ^ s
 | 0, _, _, _ => by simp [det]
 | s + 1, A, hs, h => by
  rw [det]
  have h1 : ∀ j, j < s + 1 -> (alt j * (A 0 j * det s (minor A j))).natAbs <= c * (N * c) ^ s := fun j hj => by
   rw [Int.natAbs_mul, alt_abs, Nat.one_mul, Int.natAbs_mul]
   exact Nat.mul_le_mul (h 0 j (by omega) hj) (det_abs (by omega) fun i k hi hk => h (i + 1) (skip j k) (by omega) (skip_lt hk))
  refine Nat.le_trans (natAbs_sum h1) ?_
  rw [Nat.pow_succ, Nat.mul_comm ((N * c) ^ s), Nat.mul_assoc N c]
  exact Nat.mul_le_mul_right _ hs
end Go.Sh.Of
namespace Go.Sh.Of
open Go
def swM (m : Mx) (p r : Nat) : Mx := fun x => if x = r then m p else if x = p then m r else m x
theorem swM_self (m : Mx) (r : Nat) : swM m r r = m := by
 funext x
 unfold swM
 by_cases h : x = r
 ·rw [if_pos h, h]
 ·rw [if_neg h, if_neg h]
def pivN (m : Mx) (j : Nat) : Nat -> Nat -> Nat
 | p, 0 => p
 | p, d + 1 => if m p j = 0 then pivN m j (p + 1) d else p
theorem pivN_spec (m : Mx) (j : Nat) : ∀ (d p : Nat), p <= pivN m j p d /\ pivN m j p d <= p + d /\ (∀ x, p <= x -> x < pivN m j p d -> m x j = 0) /\ (pivN m j p d < p + d -> m (pivN m j p d) j ≠ 0)
 | 0, p => ⟨Nat.le_refl _, Nat.le_refl _, fun x h1 h2 => by unfold pivN at h2; omega, fun h => by unfold pivN at h; omega⟩
 | d + 1, p => by
  unfold pivN
  by_cases h : m p j = 0
  ·rw [if_pos h]
   obtain ⟨h1, h2, h3, h4⟩ := pivN_spec m j d (p + 1)
   refine ⟨by omega, by omega, fun x hx1 hx2 => ?_, fun hx => h4 (by omega)⟩
   by_cases e : x = p
   ·rw [e, h]
   ·exact h3 x (by omega) hx2
  ·rw [if_neg h]
   exact ⟨Nat.le_refl _, by omega, fun x h1 h2 => by omega, fun _ => h⟩
def elimE (m : Mx) (last : Int) (r j x k : Nat) : Int := (m r j * m x k - m x j * m r k) / last
def elimM (m : Mx) (last : Int) (r j : Nat) : Mx := fun x k => if r < x then (if k = j then 0 else if j < k then elimE m last r j x k else m x k) else m x k
structure BSt where
 r : Nat
 m : Mx
 last : Int
 sg : Bool
def bcol (rows j : Nat) (s : BSt) : BSt :=
 if pivN s.m j s.r (rows - s.r) = rows then s
 else ⟨s.r + 1, elimM (swM s.m (pivN s.m j s.r (rows - s.r)) s.r) s.last s.r j, s.m (pivN s.m j s.r (rows - s.r)) j, if pivN s.m j s.r (rows - s.r) = s.r then s.sg else !s.sg⟩
def brun (rows : Nat) : Nat -> Nat -> BSt -> BSt
 | 0, _, s => s
 | d + 1, j, s => if s.r < rows then brun rows d (j + 1) (bcol rows j s) else s
structure BInv (rows cols : Nat) (A : Mx) (c : Nat -> Nat) (j : Nat) (s : BSt) : Prop where
 last : s.last = pdet s.r c A
 nz : s.last ≠ 0
 ent : ∀ i k, s.r <= i -> i < rows -> j <= k -> k < cols -> s.m i k = bdet s.r c A i k
 rj : s.r <= j
 rr : s.r <= rows
 cj : ∀ y, y < s.r -> c y < j
theorem BInv.start (rows cols : Nat) (A : Mx) : BInv rows cols A (fun _ => 0) 0 ⟨0, A, 1, false⟩ :=
 ⟨rfl, (by decide : (1 : Int) ≠ 0), fun i k _ _ _ _ => by
  show A i k = det 1 _
  show A i k = 0 + 1 * (A i k * 1)
  omega, Nat.le_refl _, Nat.zero_le _, fun y hy => absurd hy (Nat.not_lt_zero y)⟩
theorem BInv.skip {rows cols : Nat} {A : Mx} {c : Nat -> Nat} {j : Nat} {s : BSt} (h : BInv rows cols A c j s) : BInv rows cols A c (j + 1) s :=
 ⟨h.last, h.nz, fun i k a b e f => h.ent i k a b (by omega) f, by have := h.rj; omega, h.rr, fun y hy => by have := h.cj y hy; omega⟩
theorem sw_bdet (r : Nat) (c : Nat -> Nat) (A : Mx) {p i : Nat} (hp : r <= p) (hi : r <= i) (k : Nat) : bdet r c (swM A p r) i k = bdet r c A (if i = r then p else if i = p then r else i) k := by
 refine det_congr fun x y hx hy => ?_
 show swM A p r (if x < r then x else i) _ = A (if x < r then x else (if i = r then p else if i = p then r else i)) _
 by_cases a : x < r
 ·rw [if_pos a, if_pos a]
  unfold swM
  rw [if_neg (by omega), if_neg (by omega)]
 ·rw [if_neg a, if_neg a]
  unfold swM
  by_cases b : i = r
  ·rw [if_pos b, if_pos b]
  ·rw [if_neg b, if_neg b]
   by_cases e : i = p
   ·rw [if_pos e, if_pos e]
   ·rw [if_neg e, if_neg e]
theorem sw_pdet (r : Nat) (c : Nat -> Nat) (A : Mx) {p : Nat} (hp : r <= p) : pdet r c (swM A p r) = pdet r c A := det_congr fun x y hx hy => by
 unfold swM
 rw [if_neg (by omega), if_neg (by omega)]
theorem BInv.swap {rows cols : Nat} {A : Mx} {c : Nat -> Nat} {j : Nat} {s : BSt} (h : BInv rows cols A c j s) {p : Nat} (hp : s.r <= p) (hp2 : p < rows) (sg : Bool) : BInv rows cols (swM A p s.r) c j ⟨s.r, swM s.m p s.r, s.last, sg⟩ := by
 refine ⟨?_, h.nz, fun i k a b e f => ?_, h.rj, h.rr, h.cj⟩
 ·show s.last = _
  rw [h.last]
  exact (sw_pdet s.r c A hp).symm
 ·show swM s.m p s.r i k = bdet s.r c (swM A p s.r) i k
  rw [sw_bdet s.r c A hp a]
  have a' : s.r <= i := a
  unfold swM
  by_cases b1 : i = s.r
  ·rw [if_pos b1, if_pos b1]
   exact h.ent p k hp hp2 e f
  ·rw [if_neg b1, if_neg b1]
   by_cases b2 : i = p
   ·rw [if_pos b2, if_pos b2]
    exact h.ent s.r k (Nat.le_refl _) (by omega) e f
   ·rw [if_neg b2, if_neg b2]
    exact h.ent i k a b e f
structure BOk (rows cols : Nat) (m : Mx) (last : Int) (r j : Nat) : Prop where
 nz : last ≠ 0
 sl : last.natAbs < 2 ^ 4096
 ent : ∀ i k, r <= i -> i < rows -> j <= k -> k < cols -> (m i k).natAbs < 2 ^ 4096
 p1 : ∀ i k, r < i -> i < rows -> j < k -> k < cols -> (m r j * m i k).natAbs < 2 ^ 4096
 p2 : ∀ i k, r < i -> i < rows -> j < k -> k < cols -> (m i j * m r k).natAbs < 2 ^ 4096
 df : ∀ i k, r < i -> i < rows -> j < k -> k < cols -> (m r j * m i k - m i j * m r k).natAbs < 2 ^ 4096
 dv : ∀ i k, r < i -> i < rows -> j < k -> k < cols -> (m r j * m i k - m i j * m r k) % last = 0
structure Bd (rows cols : Nat) (A : Mx) (N X cc : Nat) : Prop where
 hN : N = min rows cols
 hX : X = N * cc
 h1 : 1 <= cc
 hlt : X ^ (2 * N) < 2 ^ 4096
 ent : ∀ i k, i < rows -> k < cols -> (A i k).natAbs <= cc
theorem Bd.swap {rows cols : Nat} {A : Mx} {N X cc : Nat} (h : Bd rows cols A N X cc) {p r : Nat} (hp : p < rows) (hr : r < rows) : Bd rows cols (swM A p r) N X cc :=
 ⟨h.hN, h.hX, h.h1, h.hlt, fun i k hi hk => by
  unfold swM
  split
  ·exact h.ent p k hp hk
  ·split
   ·exact h.ent r k hr hk
   ·exact h.ent i k hi hk⟩
theorem Bd.bdet {rows cols : Nat} {A : Mx} {N X cc : Nat} (h : Bd rows cols A N X cc) {r i k : Nat} {c : Nat -> Nat} (hr : r < N) (hi : i < rows) (hk : k < cols) (hri : r <= rows) (hc : ∀ y, y < r -> c y < cols) : (bdet r c A i k).natAbs <= X ^ (r + 1) := by
 rw [h.hX]
 refine det_abs (by omega) fun x y hx hy => h.ent _ _ ?_ ?_
 ·split <;> omega
 ·split
  ·exact hc y (by assumption)
  ·exact hk
theorem Bd.pdet {rows cols : Nat} {A : Mx} {N X cc : Nat} (h : Bd rows cols A N X cc) {r : Nat} {c : Nat -> Nat} (hr : r <= N) (hri : r <= rows) (hc : ∀ y, y < r -> c y < cols) : (pdet r c A).natAbs <= X ^ r := by
 rw [h.hX]
 exact det_abs hr fun x y hx hy => h.ent _ _ (by omega) (hc y hy)
theorem Bd.small {rows cols : Nat} {A : Mx} {N X cc : Nat} (h : Bd rows cols A N X cc) (hN : 0 < N) {s a : Nat} (hs : s <= 2 * N) (ha : a <= X ^ s) : a < 2 ^ 4096 := by
 have hX : 0 < X := by
  rw [h.hX]
  exact Nat.mul_pos hN h.h1
 exact Nat.lt_of_le_of_lt ha (Nat.lt_of_le_of_lt (Nat.pow_le_pow_right hX hs) h.hlt)
theorem BInv.ok {rows cols : Nat} {A : Mx} {c : Nat -> Nat} {j : Nat} {s : BSt} {N X cc : Nat} (h : BInv rows cols A c j s) (hb : Bd rows cols A N X cc) (hr : s.r < rows) (hj : j < cols) : BOk rows cols s.m s.last s.r j := by
 have hrj := h.rj
 have hN : s.r < N := by rw [hb.hN]; omega
 have hc : ∀ y, y < s.r -> c y < cols := fun y hy => by have := h.cj y hy; omega
 have hN0 : 0 < N := by omega
 have e : ∀ i k, s.r <= i -> i < rows -> j <= k -> k < cols -> (s.m i k).natAbs <= X ^ (s.r + 1) := fun i k a b d f => by
  rw [h.ent i k a b d f]
  exact hb.bdet hN b f (by omega) hc
 have hl : s.last.natAbs <= X ^ s.r := by
  rw [h.last]
  exact hb.pdet (by omega) (by omega) hc
 have hst : ∀ i k, s.r < i -> i < rows -> j < k -> k < cols -> s.m s.r j * s.m i k - s.m i j * s.m s.r k = s.last * bdet (s.r + 1) (fun y => if y = s.r then j else c y) A i k := fun i k a b d f => by
  rw [h.ent _ _ (Nat.le_refl _) hr (Nat.le_refl _) hj, h.ent i k (by omega) b (by omega) f, h.ent i j (by omega) b (Nat.le_refl _) hj, h.ent s.r k (Nat.le_refl _) hr (by omega) f, h.last]
  exact bord_step s.r c A i j k (by rw [<- h.last]; exact h.nz)
 have hmul : ∀ a b : Int, a.natAbs <= X ^ (s.r + 1) -> b.natAbs <= X ^ (s.r + 1) -> (a * b).natAbs < 2 ^ 4096 := fun a b ha hb' => by
  rw [Int.natAbs_mul]
  refine hb.small hN0 (s := s.r + 1 + (s.r + 1)) (by omega) ?_
  rw [Nat.pow_add]
  exact Nat.mul_le_mul ha hb'
 refine ⟨h.nz, hb.small hN0 (s := s.r) (by omega) hl, fun i k a b d f => hb.small hN0 (s := s.r + 1) (by omega) (e i k a b d f), fun i k a b d f => hmul _ _ (e _ _ (Nat.le_refl _) hr (Nat.le_refl _) hj) (e i k (by omega) b (by omega) f), fun i k a b d f => hmul _ _ (e i j (by omega) b (Nat.le_refl _) hj) (e s.r k (Nat.le_refl _) hr (by omega) f), fun i k a b d f => ?_, fun i k a b d f => ?_⟩
 ·rw [hst i k a b d f, Int.natAbs_mul]
  have hN2 : s.r + 1 < N := by rw [hb.hN]; omega
  refine hb.small hN0 (s := s.r + (s.r + 1 + 1)) (by omega) ?_
  rw [Nat.pow_add]
  refine Nat.mul_le_mul hl (hb.bdet hN2 b f (by omega) fun y hy => ?_)
  by_cases b1 : y = s.r
  ·rw [if_pos b1]; omega
  ·rw [if_neg b1]
   exact hc y (by omega)
 ·rw [hst i k a b d f]
  exact Int.mul_emod_right _ _
theorem BInv.elim {rows cols : Nat} {A : Mx} {c : Nat -> Nat} {j : Nat} {s : BSt} (h : BInv rows cols A c j s) (hr : s.r < rows) (hj : j < cols) (hnz : s.m s.r j ≠ 0) (sg : Bool) : BInv rows cols A (fun y => if y = s.r then j else c y) (j + 1) ⟨s.r + 1, elimM s.m s.last s.r j, s.m s.r j, sg⟩ := by
 have e0 := h.ent s.r j (Nat.le_refl _) hr (Nat.le_refl _) hj
 refine ⟨?_, hnz, fun i k a b d f => ?_, by have := h.rj; show s.r + 1 <= j + 1; omega, by show s.r + 1 <= rows; omega, fun y hy => ?_⟩
 ·show s.m s.r j = pdet (s.r + 1) _ A
  rw [e0]
  refine det_congr fun x y hx hy => ?_
  show A (if x < s.r then x else s.r) (if y < s.r then c y else j) = A x (if y = s.r then j else c y)
  have e1 : (if x < s.r then x else s.r) = x := by split <;> omega
  rw [e1]
  by_cases b : y < s.r
  ·rw [if_pos b, if_neg (by omega)]
  ·rw [if_neg b, if_pos (by omega)]
 ·have a' : s.r + 1 <= i := a
  show elimM s.m s.last s.r j i k = bdet (s.r + 1) _ A i k
  unfold elimM elimE
  rw [if_pos (by omega), if_neg (by omega), if_pos (by omega), e0, h.ent i k (by omega) b (by omega) f, h.ent i j (by omega) b (Nat.le_refl _) hj, h.ent s.r k (Nat.le_refl _) hr (by omega) f, h.last, bord_step s.r c A i j k (by rw [<- h.last]; exact h.nz)]
  exact Int.mul_ediv_cancel_left _ (by rw [<- h.last]; exact h.nz)
 ·have hy' : y < s.r + 1 := hy
  show (if y = s.r then j else c y) < j + 1
  by_cases b : y = s.r
  ·rw [if_pos b]; omega
  ·rw [if_neg b]
   have := h.cj y (by omega)
   omega
theorem BInv.col {rows cols : Nat} {A : Mx} {c : Nat -> Nat} {j : Nat} {s : BSt} {N X cc : Nat} (h : BInv rows cols A c j s) (hb : Bd rows cols A N X cc) (hr : s.r < rows) (hj : j < cols) : ∃ A' c', BInv rows cols A' c' (j + 1) (bcol rows j s) /\ Bd rows cols A' N X cc := by
 obtain ⟨p1, p2, p3, p4⟩ := pivN_spec s.m j (rows - s.r) s.r
 unfold bcol
 by_cases e : pivN s.m j s.r (rows - s.r) = rows
 ·rw [if_pos e]
  exact ⟨A, c, h.skip, hb⟩
 ·rw [if_neg e]
  generalize pivN s.m j s.r (rows - s.r) = p at *
  have hp : p < rows := by omega
  have hs := h.swap p1 hp (if p = s.r then s.sg else !s.sg)
  have hnz : swM s.m p s.r s.r j ≠ 0 := by
   unfold swM
   rw [if_pos rfl]
   exact p4 (by omega)
  have he := hs.elim hr hj hnz (if p = s.r then s.sg else !s.sg)
  have e2 : swM s.m p s.r s.r j = s.m p j := by unfold swM; rw [if_pos rfl]
  refine ⟨swM A p s.r, fun y => if y = s.r then j else c y, ?_, hb.swap hp hr⟩
  rw [<- e2]
  exact he
end Go.Sh.Of
namespace Go.Sh.Of
open Go
theorem Alt.swap2 {n : Nat} {F : Mx -> Int} (h : Alt n F) (A : Mx) {p q : Nat} (hp : p < n) (hq : q < n) (hne : p ≠ q) : F (swM A p q) = -F A := by
 have S : ∀ u v : Nat -> Int, F (setR (setR A p u) q v) + F (setR (setR A p v) q u) = 0 := fun u v => by
  have same : ∀ w : Nat -> Int, F (setR (setR A p w) q w) = 0 := fun w => h.rows _ hp hq hne fun k _ => by
   rw [setR_ne _ _ hne, setR_at, setR_at]
  have h0 := same fun k => 1 * u k + v k
  rw [h.lin _ _ _ _ _ hq] at h0
  have h1 : ∀ w : Nat -> Int, F (setR (setR A p fun k => 1 * u k + v k) q w) = F (setR (setR A p u) q w) + F (setR (setR A p v) q w) := fun w => by
   rw [setR_comm A hne, h.lin _ _ _ _ _ hp, setR_comm A hne, setR_comm A hne, Int.one_mul]
  rw [h1, h1, same u, same v] at h0
  omega
 have h2 := S (A p) (A q)
 have e1 : setR (setR A p (A p)) q (A q) = A := by rw [setR_self, setR_self]
 have e2 : setR (setR A p (A q)) q (A p) = swM A p q := by
  funext k
  unfold swM
  by_cases h1 : k = q
  ·subst h1
   rw [setR_at, if_pos rfl]
  ·rw [setR_ne _ _ h1, if_neg h1]
   by_cases h3 : k = p
   ·subst h3
    rw [setR_at, if_pos rfl]
   ·rw [setR_ne _ _ h3, if_neg h3]
 rw [e1, e2] at h2
 omega
theorem zero_col (n r : Nat) (M : Mx) (h : ∀ i, i < n -> M i r = 0) (hr : r < n) : det n M = 0 := by
 have h1 := det_mul n M (setR unit r fun _ => 0)
 rw [(det_Alt n).zero unit hr (fun _ => 0) (fun _ _ => rfl), Int.mul_zero] at h1
 rw [<- h1]
 refine det_congr fun i k hi hk => ?_
 show M i k = sumZ n fun t => M i t * setR unit r (fun _ => 0) t k
 by_cases e : k = r
 ·subst e
  rw [h i hi]
  refine (sumZ_zero fun t ht => ?_).symm
  by_cases e2 : t = k
  ·subst e2
   rw [setR_at, Int.mul_zero]
  ·rw [setR_ne _ _ e2]
   unfold unit
   rw [if_neg e2, Int.mul_zero]
 ·rw [sumZ_one (i := k) hk fun t ht hne => by
   by_cases e2 : t = r
   ·subst e2
    rw [setR_at, Int.mul_zero]
   ·rw [setR_ne _ _ e2]
    unfold unit
    rw [if_neg hne, Int.mul_zero]]
  rw [setR_ne _ _ e]
  unfold unit
  rw [if_pos rfl, Int.mul_one]
theorem singular {n r : Nat} {A : Mx} (hr : r < n) (hP : det r A ≠ 0) (h : ∀ x, r <= x -> x < n -> det (r + 1) (setR A r (A x)) = 0) : det n A = 0 := by
 obtain ⟨q, hq⟩ : ∃ q : Nat -> Int, ∀ t, q t = if t < r then det (r + 1) (setR A r (unit t)) else if t = r then det r A else 0 := ⟨_, fun _ => rfl⟩
 have hx : ∀ x, x < n -> sumZ n (fun t => A x t * q t) = 0 := fun x hx => by
  have h0 : det (r + 1) (setR A r (A x)) = 0 := by
   by_cases e : r <= x
   ·exact h x e hx
   ·exact (det_Alt (r + 1)).rows _ (show x < r + 1 by omega) (show r < r + 1 by omega) (by omega) fun k _ => by rw [setR_ne _ _ (by omega), setR_at]
  rw [last_sum] at h0
  have split : ∀ m, r + 1 <= m -> sumZ m (fun t => A x t * q t) = sumZ r (fun t => A x t * det (r + 1) (setR A r (unit t))) + A x r * det r A := fun m => by
   induction m with
   | zero => intro h; omega
   | succ m ih =>
    intro hm
    rw [sumZ]
    by_cases e : m = r
    ·subst e
     rw [hq m, if_neg (Nat.lt_irrefl m), if_pos rfl]
     congr 1
     exact sumZ_congr fun t ht => by rw [hq, if_pos ht]
    ·rw [ih (by omega), hq m, if_neg (by omega), if_neg e, Int.mul_zero, Int.add_zero]
  rw [split n (by omega)]
  exact h0
 obtain ⟨Q, hQ⟩ : ∃ Q : Mx, ∀ i k, Q i k = if k = r then q i else unit i k := ⟨_, fun _ _ => rfl⟩
 have hdQ : det n Q = det r A := by
  have l1 : det n Q = det r A * det n (setR Q r (unit r)) := by
   have := det_lin Q (det r A) (unit r) (fun _ => 0) hr
   rw [(det_Alt n).zero Q hr (fun _ => 0) (fun _ _ => rfl), Int.add_zero] at this
   rw [<- this]
   refine det_congr fun i k hi hk => ?_
   by_cases a : i = r
   ·subst a
    rw [setR_at, hQ, hq, if_neg (Nat.lt_irrefl i), if_pos rfl]
    unfold unit
    by_cases b : k = i
    ·rw [if_pos b, if_pos b.symm]; omega
    ·rw [if_neg b, if_neg (Ne.symm b)]; omega
   ·rw [setR_ne _ _ a]
  have l2 : det n (setR Q r (unit r)) = 1 := by
   rw [(det_Alt n).clear hr (fun i => -q i), <- det_unit n]
   refine det_congr fun i k hi hk => ?_
   by_cases a : i = r
   ·rw [if_pos a, a, setR_at]
   ·rw [if_neg a]
    show -q i * setR Q r (unit r) r k + setR Q r (unit r) i k = unit i k
    rw [setR_at, setR_ne _ _ a, hQ]
    unfold unit
    by_cases b : k = r
    ·rw [if_pos b.symm, if_pos b, if_neg (by omega)]; omega
    ·rw [if_neg (Ne.symm b), if_neg b]; omega
  rw [l1, l2, Int.mul_one]
 have hm := det_mul n A Q
 rw [zero_col n r (mulX n A Q) (fun i hi => by
  show sumZ n (fun t => A i t * Q t r) = 0
  rw [<- hx i hi]
  exact sumZ_congr fun t _ => by rw [hQ, if_pos rfl]) hr, hdQ] at hm
 rcases Int.mul_eq_zero.1 hm.symm with h1 | h1
 ·exact h1
 ·exact absurd h1 hP
def bval (rows : Nat) (s : BSt) : Int := if s.r < rows then 0 else if s.sg then -s.last else s.last
def bstart (A : Mx) : BSt := ⟨0, A, 1, false⟩
theorem run_det (n : Nat) (A : Mx) : ∀ (d j : Nat) (s : BSt), j + d = n -> ((s.r < j /\ det n A = 0) \/ ∃ A' c, s.r = j /\ BInv n n A' c j s /\ (∀ y, y < j -> c y = y) /\ det n A = if s.sg then -det n A' else det n A') -> bval n (brun n d j s) = det n A
 | 0, j, s, hj, h => by
  have hj' : j = n := by omega
  show bval n s = _
  unfold bval
  rcases h with ⟨h1, h2⟩ | ⟨A', c, h1, h2, h3, h4⟩
  ·rw [if_pos (by omega), h2]
  ·rw [if_neg (by omega), h4, h2.last]
   have e : pdet s.r c A' = det n A' := by
    rw [h1, hj']
    exact det_congr fun x y hx hy => by rw [h3 y (by omega)]
   rw [e]
 | d + 1, j, s, hj, h => by
  have hjn : j < n := by omega
  have hr : s.r < n := by
   rcases h with ⟨h1, _⟩ | ⟨_, _, h1, _⟩ <;> omega
  show bval n (if s.r < n then brun n d (j + 1) (bcol n j s) else s) = _
  rw [if_pos hr]
  refine run_det n A d (j + 1) _ (by omega) ?_
  obtain ⟨p1, p2, p3, p4⟩ := pivN_spec s.m j (n - s.r) s.r
  rcases h with ⟨h1, h2⟩ | ⟨A', c, h1, h2, h3, h4⟩
  ·left
   refine ⟨?_, h2⟩
   unfold bcol
   split
   ·omega
   ·show s.r + 1 < j + 1
    omega
  ·by_cases e : pivN s.m j s.r (n - s.r) = n
   ·left
    have hb : bcol n j s = s := by unfold bcol; rw [if_pos e]
    rw [hb]
    refine ⟨by omega, ?_⟩
    have hc : ∀ (T : Mx), det s.r (fun x y => T x (c y)) = det s.r T := fun T => det_congr fun x y hx hy => by rw [h3 y (by omega)]
    have hs : det n A' = 0 := by
     refine singular (r := s.r) hr ?_ fun x hx1 hx2 => ?_
     ·have := h2.nz
      rw [h2.last] at this
      rw [<- hc A']
      exact this
     ·have h5 := p3 x hx1 (by rw [e]; exact hx2)
      rw [h2.ent x j hx1 hx2 (Nat.le_refl _) hjn] at h5
      rw [<- h5]
      refine det_congr fun a y ha hy => ?_
      show setR A' s.r (A' x) a y = A' (if a < s.r then a else x) (if y < s.r then c y else j)
      have e1 : (if y < s.r then c y else j) = y := by
       by_cases b : y < s.r
       ·rw [if_pos b, h3 y (by omega)]
       ·rw [if_neg b]; omega
      rw [e1]
      by_cases b : a < s.r
      ·rw [if_pos b, setR_ne _ _ (by omega)]
      ·have : a = s.r := by omega
       subst this
       rw [if_neg b, setR_at]
    rw [h4, hs]
    split <;> rfl
   ·right
    have hb : bcol n j s = ⟨s.r + 1, elimM (swM s.m (pivN s.m j s.r (n - s.r)) s.r) s.last s.r j, s.m (pivN s.m j s.r (n - s.r)) j, if pivN s.m j s.r (n - s.r) = s.r then s.sg else !s.sg⟩ := by unfold bcol; rw [if_neg e]
    rw [hb]
    generalize pivN s.m j s.r (n - s.r) = p at *
    have hp : p < n := by omega
    have hs := h2.swap p1 hp (if p = s.r then s.sg else !s.sg)
    have e2 : swM s.m p s.r s.r j = s.m p j := by unfold swM; rw [if_pos rfl]
    have hnz : swM s.m p s.r s.r j ≠ 0 := by
     rw [e2]
     exact p4 (by omega)
    have he := hs.elim hr hjn hnz (if p = s.r then s.sg else !s.sg)
    refine ⟨swM A' p s.r, fun y => if y = s.r then j else c y, by show s.r + 1 = j + 1; omega, ?_, fun y hy => ?_, ?_⟩
    ·rw [<- e2]
     exact he
    ·show (if y = s.r then j else c y) = y
     by_cases b : y = s.r
     ·rw [if_pos b]; omega
     ·rw [if_neg b, h3 y (by omega)]
    ·show det n A = if (if p = s.r then s.sg else !s.sg) = true then -det n (swM A' p s.r) else det n (swM A' p s.r)
     rw [h4]
     by_cases b : p = s.r
     ·rw [if_pos b, b, swM_self]
     ·rw [if_neg b, (det_Alt n).swap2 A' hp hr b]
      cases s.sg <;> simp
theorem bare_det (n : Nat) (A : Mx) : bval n (brun n n 0 (bstart A)) = det n A :=
 run_det n A n 0 (bstart A) (by omega) (.inr ⟨A, fun _ => 0, rfl, BInv.start n n A, fun y hy => absurd hy (Nat.not_lt_zero y), rfl⟩)
end Go.Sh.Of
namespace Go.Sh.Of
open Go
def setC (A : Mx) (c : Nat) (v : Nat -> Int) : Mx := fun i k => if k = c then v i else A i k
theorem skip_eq {j k c : Nat} (h : c ≠ j) : skip j k = c ↔ k = unskip j c := by
 unfold skip unskip
 by_cases a : k < j
 ·rw [if_pos a]
  by_cases b : c < j
  ·rw [if_pos b]
  ·rw [if_neg b]; omega
 ·rw [if_neg a]
  by_cases b : c < j
  ·rw [if_pos b]; omega
  ·rw [if_neg b]; omega
theorem minor_setC_same (A : Mx) (c : Nat) (w : Nat -> Int) : minor (setC A c w) c = minor A c := by
 funext i k
 show (if skip c k = c then w (i + 1) else A (i + 1) (skip c k)) = A (i + 1) (skip c k)
 rw [if_neg (skip_ne c k)]
theorem minor_setC (A : Mx) {c j : Nat} (w : Nat -> Int) (h : c ≠ j) : minor (setC A c w) j = setC (minor A j) (unskip j c) (fun i => w (i + 1)) := by
 funext i k
 show (if skip j k = c then w (i + 1) else A (i + 1) (skip j k)) = if k = unskip j c then w (i + 1) else A (i + 1) (skip j k)
 by_cases e : k = unskip j c
 ·rw [if_pos e, if_pos ((skip_eq h).2 e)]
 ·rw [if_neg e, if_neg fun x => e ((skip_eq h).1 x)]
theorem col_lin : ∀ {n c : Nat} (A : Mx) (a : Int) (u v : Nat -> Int), c < n -> det n (setC A c fun i => a * u i + v i) = a * det n (setC A c u) + det n (setC A c v)
 | 0, c, _, _, _, _, h => by omega
 | n + 1, c, A, a, u, v, hc => by
  rw [det, det, det, <- sumZ_mul, <- sumZ_add]
  refine sumZ_congr fun j hj => ?_
  have e0 : ∀ w : Nat -> Int, setC A c w 0 j = if j = c then w 0 else A 0 j := fun _ => rfl
  by_cases e : j = c
  ·subst e
   rw [minor_setC_same, minor_setC_same, minor_setC_same, e0, e0, e0, if_pos rfl, if_pos rfl, if_pos rfl, Int.add_mul, Int.mul_add, Int.mul_assoc, Int.mul_left_comm (alt j) a]
  ·have hs : unskip j c < n := unskip_lt hc hj (Ne.symm e)
   rw [minor_setC A _ (Ne.symm e), minor_setC A _ (Ne.symm e), minor_setC A _ (Ne.symm e), e0, e0, e0, if_neg e, if_neg e, if_neg e, col_lin (minor A j) a (fun i => u (i + 1)) (fun i => v (i + 1)) hs, Int.mul_add, Int.mul_add, Int.mul_left_comm (A 0 j) a, Int.mul_left_comm (alt j) a]
theorem sumZ_two {g : Nat -> Int} {i k : Nat} {n : Nat} (hi : i < n) (hk : k < n) (hne : i ≠ k) (h : ∀ j, j < n -> j ≠ i -> j ≠ k -> g j = 0) : sumZ n g = g i + g k := by
 have e : sumZ n g = sumZ n (fun j => if j = i then g j else 0) + sumZ n (fun j => if j = i then 0 else g j) := by
  rw [<- sumZ_add]
  refine sumZ_congr fun j hj => ?_
  by_cases a : j = i
  ·rw [if_pos a, if_pos a, Int.add_zero]
  ·rw [if_neg a, if_neg a, Int.zero_add]
 rw [e, sumZ_one (i := i) hi fun j _ a => by rw [if_neg a], sumZ_one (i := k) hk fun j hj a => ?_, if_pos rfl, if_neg (Ne.symm hne)]
 by_cases b : j = i
 ·rw [if_pos b]
 ·rw [if_neg b, h j hj b a]
theorem col_adj : ∀ {n c : Nat} (A : Mx), c + 1 < n -> (∀ i, i < n -> A i c = A i (c + 1)) -> det n A = 0
 | 0, c, _, h, _ => by omega
 | n + 1, c, A, hc, he => by
  rw [det, sumZ_two (i := c) (k := c + 1) (by omega) hc (by omega) fun j hj a b => ?_]
  ·have e1 : det n (minor A c) = det n (minor A (c + 1)) := det_congr fun i k hi hk => by
    show A (i + 1) (skip c k) = A (i + 1) (skip (c + 1) k)
    unfold skip
    by_cases b : k < c
    ·rw [if_pos b, if_pos (by omega)]
    ·by_cases d : k = c
     ·subst d
      rw [if_neg b, if_pos (by omega), he (i + 1) (by omega)]
     ·rw [if_neg b, if_neg (by omega)]
   rw [e1, he 0 (by omega), show alt (c + 1) = -alt c from rfl, Int.neg_mul]
   omega
  ·have e2 : det n (minor A j) = 0 := by
    refine col_adj (c := unskip j c) (minor A j) ?_ fun i hi => ?_
    ·unfold unskip
     split <;> omega
    ·show A (i + 1) (skip j (unskip j c)) = A (i + 1) (skip j (unskip j c + 1))
     have e3 : unskip j c + 1 = unskip j (c + 1) := by
      unfold unskip
      by_cases d : c < j
      ·rw [if_pos d, if_pos (by omega)]
      ·rw [if_neg d, if_neg (by omega)]; omega
     rw [e3, skip_unskip (Ne.symm a), skip_unskip (Ne.symm b), he (i + 1) (by omega)]
   rw [e2, Int.mul_zero, Int.mul_zero]
def tpM (A : Mx) : Mx := fun i k => A k i
theorem tpM_setR (A : Mx) (i : Nat) (w : Nat -> Int) : tpM (setR A i w) = setC (tpM A) i w := by
 funext x y
 show setR A i w y x = if y = i then w x else A y x
 by_cases e : y = i
 ·subst e
  rw [setR_at, if_pos rfl]
 ·rw [setR_ne _ _ e, if_neg e]
theorem tr_Alt (n : Nat) : Alt n (fun A => det n (tpM A)) := by
 refine ⟨fun A C h => det_congr fun i k hi hk => h k i hk hi, fun A i c u v hi => ?_, fun A i hi he => col_adj (c := i) (tpM A) hi fun k hk => he k hk⟩
 rw [tpM_setR, tpM_setR, tpM_setR, col_lin _ _ _ _ hi]
theorem det_tr (n : Nat) (A : Mx) : det n (tpM A) = det n A := by
 rw [(tr_Alt n).uniq A]
 have e : tpM unit = unit := by
  funext i k
  show (if k = i then (1 : Int) else 0) = if i = k then 1 else 0
  by_cases h : i = k
  ·rw [if_pos h, if_pos h.symm]
  ·rw [if_neg h, if_neg (Ne.symm h)]
 rw [e, det_unit, Int.mul_one]
theorem Alt.front {n : Nat} {F : Mx -> Int} (h : Alt n F) (B : Mx) {j : Nat} (hj : j < n) : F (fun i => if i = 0 then B j else if i <= j then B (i - 1) else B i) = alt j * F B := by
 have go : ∀ d m, m + d = j -> F (fun i => if i < m then B i else if i = m then B j else if i <= j then B (i - 1) else B i) = alt d * F B := fun d => by
  induction d with
  | zero =>
   intro m hm
   have hm' : m = j := by omega
   subst hm'
   rw [alt, Int.one_mul]
   congr 1
   funext i
   by_cases h1 : i < m
   ·rw [if_pos h1]
   ·rw [if_neg h1]
    by_cases h2 : i = m
    ·rw [if_pos h2, h2]
    ·rw [if_neg h2, if_neg (by omega)]
  | succ d ih =>
   intro m hm
   have h1 := ih (m + 1) (by omega)
   have h2 := h.swap (fun i => if i < m then B i else if i = m then B j else if i <= j then B (i - 1) else B i) (i := m) (by omega)
   have e : swR (fun i => if i < m then B i else if i = m then B j else if i <= j then B (i - 1) else B i) m = fun i => if i < m + 1 then B i else if i = m + 1 then B j else if i <= j then B (i - 1) else B i := by
    funext i
    show (if i = m then (if m + 1 < m then B (m + 1) else if m + 1 = m then B j else if m + 1 <= j then B (m + 1 - 1) else B (m + 1)) else if i = m + 1 then (if m < m then B m else if m = m then B j else if m <= j then B (m - 1) else B m) else (if i < m then B i else if i = m then B j else if i <= j then B (i - 1) else B i)) = (if i < m + 1 then B i else if i = m + 1 then B j else if i <= j then B (i - 1) else B i)
    by_cases a1 : i = m
    ·subst a1
     rw [if_pos rfl, if_neg (by omega), if_neg (by omega), if_pos (by omega), if_pos (by omega), Nat.add_sub_cancel]
    ·by_cases a2 : i = m + 1
     ·subst a2
      rw [if_neg (by omega), if_pos rfl, if_neg (by omega), if_pos rfl, if_neg (by omega), if_pos rfl]
     ·rw [if_neg a1, if_neg a2]
      by_cases a3 : i < m
      ·rw [if_pos a3, if_pos (by omega)]
      ·rw [if_neg a3, if_neg a1, if_neg (show ¬ i < m + 1 by omega), if_neg a2]
   rw [e, h1] at h2
   rw [alt]
   rw [Int.neg_mul]
   omega
 have := go j 0 (by omega)
 rw [<- this]
 congr 1
def minor2 (A : Mx) (j k : Nat) : Mx := fun x y => A (skip j x) (skip k y)
theorem alt_mul_self : ∀ n : Nat, alt n * alt n = 1
 | 0 => rfl
 | n + 1 => by
  show -alt n * -alt n = 1
  rw [Int.neg_mul_neg, alt_mul_self n]
theorem alt_add (a : Nat) : ∀ b : Nat, alt (a + b) = alt a * alt b
 | 0 => by rw [Nat.add_zero, alt, Int.mul_one]
 | b + 1 => by
  show -alt (a + b) = alt a * -alt b
  rw [alt_add a b, Int.mul_neg]
theorem laplace {n : Nat} (B : Mx) {j : Nat} (hj : j < n + 1) : det (n + 1) B = sumZ (n + 1) fun k => B j k * (alt (j + k) * det n (minor2 B j k)) := by
 have h := (det_Alt (n + 1)).front B hj
 have h2 : det (n + 1) B = alt j * det (n + 1) (fun i => if i = 0 then B j else if i <= j then B (i - 1) else B i) := by
  rw [h, <- Int.mul_assoc, alt_mul_self, Int.one_mul]
 rw [h2, det, <- sumZ_mul]
 refine sumZ_congr fun k hk => ?_
 have e : det n (minor (fun i => if i = 0 then B j else if i <= j then B (i - 1) else B i) k) = det n (minor2 B j k) := det_congr fun x y hx hy => by
  show (if x + 1 = 0 then B j else if x + 1 <= j then B (x + 1 - 1) else B (x + 1)) (skip k y) = B (skip j x) (skip k y)
  rw [if_neg (show ¬ x + 1 = 0 by omega)]
  by_cases a : x < j
  ·rw [if_pos (show x + 1 <= j by omega), Nat.add_sub_cancel]
   unfold skip
   rw [if_pos a]
  ·rw [if_neg (show ¬ x + 1 <= j by omega)]
   unfold skip
   rw [if_neg a]
 rw [e, alt_add, if_pos rfl]
 ac_rfl
def adjM (n : Nat) (A : Mx) : Mx := fun i j => alt (i + j) * det n (minor2 A j i)
theorem mul_adj {n : Nat} (A : Mx) {i j : Nat} (hi : i < n + 1) (hj : j < n + 1) : mulX (n + 1) A (adjM n A) i j = if i = j then det (n + 1) A else 0 := by
 have e : mulX (n + 1) A (adjM n A) i j = det (n + 1) (setR A j (A i)) := by
  rw [laplace (setR A j (A i)) hj]
  refine sumZ_congr fun k hk => ?_
  show A i k * (alt (k + j) * det n (minor2 A j k)) = _
  rw [setR_at, Nat.add_comm k j]
  congr 2
  refine det_congr fun x y hx hy => ?_
  show A (skip j x) (skip k y) = setR A j (A i) (skip j x) (skip k y)
  rw [setR_ne _ _ (skip_ne j x)]
 rw [e]
 by_cases a : i = j
 ·subst a
  rw [if_pos rfl, setR_self]
 ·rw [if_neg a]
  exact (det_Alt (n + 1)).rows _ hi hj a fun k _ => by rw [setR_ne _ _ a, setR_at]
theorem adjM_tp (n : Nat) (A : Mx) : adjM n (tpM A) = tpM (adjM n A) := by
 funext i j
 show alt (i + j) * det n (minor2 (tpM A) j i) = alt (j + i) * det n (minor2 A i j)
 rw [Nat.add_comm j i, <- det_tr n (minor2 A i j)]
 rfl
theorem adj_mul {n : Nat} (A : Mx) {i j : Nat} (hi : i < n + 1) (hj : j < n + 1) : mulX (n + 1) (adjM n A) A i j = if i = j then det (n + 1) A else 0 := by
 have h := mul_adj (tpM A) hj hi
 rw [adjM_tp, det_tr] at h
 have e : mulX (n + 1) (tpM A) (tpM (adjM n A)) j i = mulX (n + 1) (adjM n A) A i j := sumZ_congr fun t ht => Int.mul_comm _ _
 rw [e] at h
 rw [h]
 by_cases a : i = j
 ·rw [if_pos a, if_pos a.symm]
 ·rw [if_neg a, if_neg (Ne.symm a)]
end Go.Sh.Of
namespace Go.Sh.Of
open Go
theorem right_Alt (r s : Nat) (M : Mx) : Alt s (fun Y => det (r + s) (fun i k => if i < r then M i k else if k < r then 0 else Y (i - r) (k - r))) := by
 refine ⟨fun A C h => det_congr fun i k hi hk => ?_, fun A i c u v hi => ?_, fun A i hi he => det_adj (i := r + i) _ (by omega) fun k hk => ?_⟩
 ·by_cases h1 : i < r
  ·rw [if_pos h1, if_pos h1]
  ·rw [if_neg h1, if_neg h1]
   by_cases h2 : k < r
   ·rw [if_pos h2, if_pos h2]
   ·rw [if_neg h2, if_neg h2, h _ _ (by omega) (by omega)]
 ·have e : ∀ w : Nat -> Int, (fun x k => if x < r then M x k else if k < r then 0 else setR A i w (x - r) (k - r)) = setR (fun x k => if x < r then M x k else if k < r then 0 else A (x - r) (k - r)) (r + i) (fun k => if k < r then 0 else w (k - r)) := fun w => by
   funext x
   by_cases h : x = r + i
   ·subst h
    rw [setR_at]
    funext k
    rw [if_neg (show ¬ r + i < r by omega), show r + i - r = i by omega, setR_at]
   ·rw [setR_ne _ _ h]
    funext k
    by_cases h1 : x < r
    ·rw [if_pos h1, if_pos h1]
    ·rw [if_neg h1, if_neg h1, setR_ne _ _ (by omega)]
  rw [e, e, e, <- det_lin _ _ _ _ (by omega)]
  congr 2
  funext k
  by_cases h : k < r
  ·rw [if_pos h, if_pos h, if_pos h]; omega
  ·rw [if_neg h, if_neg h, if_neg h]
 ·show (if r + i < r then M (r + i) k else if k < r then 0 else A (r + i - r) (k - r)) = if r + i + 1 < r then M (r + i + 1) k else if k < r then 0 else A (r + i + 1 - r) (k - r)
  rw [if_neg (show ¬ r + i < r by omega), if_neg (show ¬ r + i + 1 < r by omega)]
  by_cases h : k < r
  ·rw [if_pos h, if_pos h]
  ·rw [if_neg h, if_neg h, show r + i - r = i by omega, show r + i + 1 - r = i + 1 by omega, he _ (by omega)]
theorem det_low (r s : Nat) (M : Mx) (h0 : ∀ i k, r <= i -> i < r + s -> k < r -> M i k = 0) : det (r + s) M = det r M * det s (fun i k => M (r + i) (r + k)) := by
 have h1 : det (r + s) (fun i k => if i < r then M i k else if k < r then 0 else M (r + (i - r)) (r + (k - r))) = det s (fun i k => M (r + i) (r + k)) * det (r + s) (fun i k => if i < r then M i k else if k < r then 0 else unit (i - r) (k - r)) := (right_Alt r s M).uniq (fun i k => M (r + i) (r + k))
 have e1 : det (r + s) (fun i k => if i < r then M i k else if k < r then 0 else M (r + (i - r)) (r + (k - r))) = det (r + s) M := det_congr fun i k hi hk => by
  by_cases a : i < r
  ·rw [if_pos a]
  ·rw [if_neg a]
   by_cases b : k < r
   ·rw [if_pos b, h0 i k (by omega) hi b]
   ·rw [if_neg b, show r + (i - r) = i by omega, show r + (k - r) = k by omega]
 rw [e1] at h1
 rw [h1, Int.mul_comm]
 congr 1
 have go : ∀ m, m <= s -> det (r + s) (fun i k => if i < r then M i k else if k < r then 0 else unit (i - r) (k - r)) = det (r + s) (fun i k => if i < r then (if r <= k /\ k < r + m then 0 else M i k) else if k < r then 0 else unit (i - r) (k - r)) := fun m => by
  induction m with
  | zero =>
   intro _
   refine det_congr fun i k hi hk => ?_
   by_cases a : i < r
   ·rw [if_pos a, if_pos a, if_neg (by omega)]
   ·rw [if_neg a, if_neg a]
  | succ m ih =>
   intro hm
   rw [ih (by omega), (det_Alt (r + s)).clear (t := r + m) (by omega) (fun i => if i < r then -M i (r + m) else 0)]
   refine det_congr fun i k hi hk => ?_
   by_cases a : i < r
   ·rw [if_neg (show i ≠ r + m by omega)]
    simp only [if_pos a, if_neg (show ¬ r + m < r by omega)]
    unfold unit
    by_cases b : r <= k /\ k < r + m
    ·rw [if_pos b, if_pos (show r <= k /\ k < r + (m + 1) by omega), if_neg (show ¬ k < r by omega), if_neg (show r + m - r ≠ k - r by omega)]
     omega
    ·rw [if_neg b]
     by_cases c : k = r + m
     ·subst c
      rw [if_pos (show r <= r + m /\ r + m < r + (m + 1) by omega), if_neg (show ¬ r + m < r by omega), if_pos rfl]
      omega
     ·rw [if_neg (show ¬ (r <= k /\ k < r + (m + 1)) by omega)]
      by_cases d : k < r
      ·rw [if_pos d]
       omega
      ·rw [if_neg d, if_neg (show r + m - r ≠ k - r by omega)]
       omega
   ·by_cases b : i = r + m
    ·rw [if_pos b]
     simp only [if_neg a]
    ·rw [if_neg b]
     simp only [if_neg a, Int.zero_mul, Int.zero_add]
 rw [go s (Nat.le_refl _), det_block r s _ fun i k hi hk hk2 => by rw [if_pos hi, if_pos ⟨hk, hk2⟩]]
 have e2 : det r (fun i k => if i < r then (if r <= k /\ k < r + s then 0 else M i k) else if k < r then 0 else unit (i - r) (k - r)) = det r M := det_congr fun i k hi hk => by
  rw [if_pos hi, if_neg (by omega)]
 have e3 : det s (fun i k => (fun i k => if i < r then (if r <= k /\ k < r + s then 0 else M i k) else if k < r then 0 else unit (i - r) (k - r)) (r + i) (r + k)) = 1 := by
  rw [<- det_unit s]
  refine det_congr fun i k hi hk => ?_
  show (if r + i < r then (if r <= r + k /\ r + k < r + s then 0 else M (r + i) (r + k)) else if r + k < r then 0 else unit (r + i - r) (r + k - r)) = unit i k
  rw [if_neg (by omega), if_neg (by omega), show r + i - r = i by omega, show r + k - r = k by omega]
 rw [e2, e3, Int.mul_one]
def lessM (A : Mx) : Mx := fun i j => A 0 0 * A (i + 1) (j + 1) - A (i + 1) 0 * A 0 (j + 1)
theorem det_scale (n : Nat) (A : Mx) (c : Int) : ∀ m, m < n -> det n (fun i k => if 1 <= i /\ i <= m then c * A i k else A i k) = c ^ m * det n A
 | 0, _ => by
  rw [Int.pow_zero, Int.one_mul]
  exact det_congr fun i k _ _ => by rw [if_neg (by omega)]
 | m + 1, hm => by
  have h1 := det_lin (fun i k => if 1 <= i /\ i <= m then c * A i k else A i k) c (A (m + 1)) (fun _ => 0) hm
  rw [(det_Alt n).zero _ hm (fun _ => 0) (fun _ _ => rfl), Int.add_zero] at h1
  have e1 : setR (fun i k => if 1 <= i /\ i <= m then c * A i k else A i k) (m + 1) (A (m + 1)) = fun i k => if 1 <= i /\ i <= m then c * A i k else A i k := by
   funext x
   by_cases e : x = m + 1
   ·subst e
    rw [setR_at]
    funext k
    rw [if_neg (by omega)]
   ·rw [setR_ne _ _ e]
  rw [e1, det_scale n A c m (by omega)] at h1
  rw [Int.pow_succ, Int.mul_comm (c ^ m) c, Int.mul_assoc, <- h1]
  refine det_congr fun i k hi hk => ?_
  by_cases e : i = m + 1
  ·subst e
   rw [setR_at, if_pos (by omega)]
   omega
  ·rw [setR_ne _ _ e]
   by_cases b : 1 <= i /\ i <= m
   ·rw [if_pos b, if_pos (by omega)]
   ·rw [if_neg b, if_neg (by omega)]
theorem chio (k : Nat) (A : Mx) : A 0 0 * det k (lessM A) = A 0 0 ^ k * det (k + 1) A := by
 rw [<- det_scale (k + 1) A (A 0 0) k (by omega), (det_Alt (k + 1)).clear (t := 0) (by omega) (fun i => -A i 0), Nat.add_comm k 1, det_low 1 k _ fun i j hi hi2 hj => ?_]
 ·have e1 : ∀ M : Mx, det 1 M = M 0 0 := fun M => by
   show 0 + 1 * (M 0 0 * 1) = _
   omega
  rw [e1]
  congr 1
  refine det_congr fun i j hi hj => ?_
  rw [if_neg (show 1 + i ≠ 0 by omega)]
  simp only [if_neg (show ¬ (1 <= 0 /\ 0 <= k) by omega), if_pos (show 1 <= 1 + i /\ 1 + i <= k by omega)]
  unfold lessM
  rw [Nat.add_comm 1 i, Nat.add_comm 1 j, Int.neg_mul]
  omega
 ·have hj0 : j = 0 := by omega
  subst hj0
  rw [if_neg (show i ≠ 0 by omega)]
  simp only [if_neg (show ¬ (1 <= 0 /\ 0 <= k) by omega), if_pos (show 1 <= i /\ i <= k by omega)]
  rw [Int.neg_mul, Int.mul_comm (A 0 0)]
  omega
theorem sumZ_front (g : Nat -> Int) : ∀ n : Nat, sumZ (n + 1) g = g 0 + sumZ n fun j => g (j + 1)
 | 0 => by simp [sumZ]
 | n + 1 => by
  rw [sumZ, sumZ_front g n, sumZ]
  omega
def bil (n : Nat) (A : Mx) (x y : Nat -> Int) : Int := sumZ n fun i => sumZ n fun j => x i * (A i j * y j)
theorem sumZ_swap (t : Nat -> Nat -> Int) (m : Nat) : ∀ n : Nat, sumZ n (fun i => sumZ m (t i)) = sumZ m fun j => sumZ n fun i => t i j
 | 0 => (sumZ_zero fun j _ => rfl).symm
 | n + 1 => by
  rw [sumZ, sumZ_swap t m n, <- sumZ_add]
  rfl
theorem bil_less (n : Nat) (A : Mx) (hs : ∀ i j, i < n + 1 -> j < n + 1 -> A i j = A j i) (x : Nat -> Int) : A 0 0 * bil (n + 1) A x x = sumZ (n + 1) (fun j => A 0 j * x j) * sumZ (n + 1) (fun j => A 0 j * x j) + bil n (lessM A) (fun i => x (i + 1)) (fun i => x (i + 1)) := by
 obtain ⟨S, hS⟩ : ∃ S, S = sumZ n fun j => A 0 (j + 1) * x (j + 1) := ⟨_, rfl⟩
 obtain ⟨T, hT⟩ : ∃ T, T = sumZ n fun i => sumZ n fun j => x (i + 1) * (A (i + 1) (j + 1) * x (j + 1)) := ⟨_, rfl⟩
 have h1 : sumZ (n + 1) (fun j => A 0 j * x j) = A 0 0 * x 0 + S := by rw [sumZ_front, hS]
 have hS2 : sumZ n (fun i => x (i + 1) * A (i + 1) 0) = S := by
  rw [hS]
  exact sumZ_congr fun i hi => by rw [hs (i + 1) 0 (by omega) (by omega), Int.mul_comm]
 have h2 : bil (n + 1) A x x = x 0 * (A 0 0 * x 0) + x 0 * S + (S * x 0 + T) := by
  unfold bil
  rw [sumZ_front]
  congr 1
  ·rw [sumZ_front, hS, <- sumZ_mul]
  ·rw [hT, <- hS2, Int.mul_comm (sumZ n _), <- sumZ_mul, <- sumZ_add]
   refine sumZ_congr fun i hi => ?_
   rw [sumZ_front]
   congr 1
   rw [Int.mul_comm (x 0), Int.mul_assoc]
 have h3 : bil n (lessM A) (fun i => x (i + 1)) (fun i => x (i + 1)) = A 0 0 * T + -1 * (S * S) := by
  unfold bil
  have e : S * S = sumZ n fun i => sumZ n fun j => x (i + 1) * (A (i + 1) 0 * (A 0 (j + 1) * x (j + 1))) := by
   have e2 : S * S = sumZ n fun i => S * (x (i + 1) * A (i + 1) 0) := by rw [sumZ_mul, hS2]
   rw [e2]
   refine sumZ_congr fun i hi => ?_
   rw [Int.mul_comm, hS, <- sumZ_mul]
   exact sumZ_congr fun j hj => by rw [Int.mul_assoc]
  rw [e, hT, <- sumZ_mul, <- sumZ_mul, <- sumZ_add]
  refine sumZ_congr fun i hi => ?_
  rw [<- sumZ_mul, <- sumZ_mul, <- sumZ_add]
  refine sumZ_congr fun j hj => ?_
  show x (i + 1) * ((A 0 0 * A (i + 1) (j + 1) - A (i + 1) 0 * A 0 (j + 1)) * x (j + 1)) = _
  rw [Int.sub_mul, Int.mul_sub, Int.mul_assoc, Int.mul_left_comm (x (i + 1)) (A 0 0), Int.mul_assoc (A (i + 1) 0)]
  omega
 rw [h1, h2, h3]
 generalize A 0 0 = a
 generalize x 0 = t
 simp only [Int.mul_add, Int.add_mul]
 have e1 : a * (t * (a * t)) = a * t * (a * t) := by ac_rfl
 have e2 : a * (t * S) = a * t * S := by ac_rfl
 have e3 : a * (S * t) = S * (a * t) := by ac_rfl
 rw [e1, e2, e3]
 omega
def Corner (n : Nat) (A : Mx) : Prop := ∀ k, 1 <= k -> k <= n -> 0 < det k A
theorem sq_nonneg (a : Int) : 0 <= a * a := by
 rcases Int.le_total 0 a with h | h
 ·exact Int.mul_nonneg h h
 ·have := Int.mul_nonneg (show 0 <= -a by omega) (show 0 <= -a by omega)
  rwa [Int.neg_mul_neg] at this
theorem corner_pos : ∀ (n : Nat) (A : Mx), (∀ i j, i < n -> j < n -> A i j = A j i) -> Corner n A -> ∀ x, 0 <= bil n A x x /\ (bil n A x x = 0 -> ∀ i, i < n -> x i = 0)
 | 0, A, _, _, x => ⟨Int.le_refl _, fun _ i hi => by omega⟩
 | n + 1, A, hs, hc, x => by
  have h1 := hc 1 (Nat.le_refl _) (by omega)
  have e1 : det 1 A = A 0 0 := by
   show 0 + 1 * (A 0 0 * 1) = _
   omega
  rw [e1] at h1
  have hs' : ∀ i j, i < n -> j < n -> lessM A i j = lessM A j i := fun i j hi hj => by
   unfold lessM
   rw [hs (i + 1) (j + 1) (by omega) (by omega), hs (i + 1) 0 (by omega) (by omega), hs 0 (j + 1) (by omega) (by omega), Int.mul_comm (A 0 (i + 1))]
  have hc' : Corner n (lessM A) := fun k h0 hk => by
   have h2 := chio k A
   have h3 := hc (k + 1) (by omega) (by omega)
   have h4 : 0 < A 0 0 ^ k * det (k + 1) A := Int.mul_pos (Int.pow_pos h1) h3
   rw [<- h2] at h4
   rcases Int.lt_or_le 0 (det k (lessM A)) with h5 | h5
   ·exact h5
   ·have h6 := Int.mul_nonneg (show 0 <= A 0 0 by omega) (show 0 <= -det k (lessM A) by omega)
    rw [Int.mul_neg] at h6
    omega
  obtain ⟨p1, p2⟩ := corner_pos n (lessM A) hs' hc' fun i => x (i + 1)
  have hb := bil_less n A hs x
  have hsq := sq_nonneg (sumZ (n + 1) fun j => A 0 j * x j)
  refine ⟨?_, fun h0 i hi => ?_⟩
  ·have : 0 <= A 0 0 * bil (n + 1) A x x := by omega
   exact Int.le_of_mul_le_mul_left (by omega) h1
  ·rw [h0, Int.mul_zero] at hb
   have hb' : bil n (lessM A) (fun i => x (i + 1)) (fun i => x (i + 1)) = 0 := by omega
   have hx : ∀ i, i < n -> x (i + 1) = 0 := p2 hb'
   have hS : sumZ (n + 1) (fun j => A 0 j * x j) = A 0 0 * x 0 := by
    rw [sumZ_front, sumZ_zero fun j hj => by rw [hx j hj, Int.mul_zero], Int.add_zero]
   have h5 : A 0 0 * x 0 * (A 0 0 * x 0) = 0 := by rw [<- hS]; omega
   have h6 : x 0 = 0 := by
    rcases Int.mul_eq_zero.1 h5 with h | h <;> rcases Int.mul_eq_zero.1 h with h | h <;> first | omega | exact h
   cases i with
   | zero => exact h6
   | succ i => exact hx i (by omega)
end Go.Sh.Of
namespace Go.Sh.Of
open Go
def Sym (n : Nat) (A : Mx) : Prop := ∀ i j, i < n -> j < n -> A i j = A j i
theorem less_sym {n : Nat} {A : Mx} (hs : Sym (n + 1) A) : Sym n (lessM A) := fun i j hi hj => by
 unfold lessM
 rw [hs (i + 1) (j + 1) (by omega) (by omega), hs (i + 1) 0 (by omega) (by omega), hs 0 (j + 1) (by omega) (by omega), Int.mul_comm (A 0 (i + 1))]
def Pd (n : Nat) (A : Mx) : Prop := ∀ x, 0 <= bil n A x x /\ (bil n A x x = 0 -> ∀ i, i < n -> x i = 0)
theorem Corner.pd {n : Nat} {A : Mx} (hs : Sym n A) (hc : Corner n A) : Pd n A := corner_pos n A hs hc
theorem bil_congr {n : Nat} {A C : Mx} {x y u v : Nat -> Int} (hA : ∀ i j, i < n -> j < n -> A i j = C i j) (hx : ∀ i, i < n -> x i = u i) (hy : ∀ i, i < n -> y i = v i) : bil n A x y = bil n C u v :=
 sumZ_congr fun i hi => sumZ_congr fun j hj => by rw [hA i j hi hj, hx i hi, hy j hj]
theorem bil_scale (n : Nat) (A : Mx) (c : Int) (x y : Nat -> Int) : bil n A (fun i => c * x i) (fun i => c * y i) = c * c * bil n A x y := by
 unfold bil
 rw [<- sumZ_mul]
 refine sumZ_congr fun i hi => ?_
 rw [<- sumZ_mul]
 refine sumZ_congr fun j hj => ?_
 show c * x i * (A i j * (c * y j)) = c * c * (x i * (A i j * y j))
 ac_rfl
theorem bil_one (n : Nat) (A : Mx) {k : Nat} (hk : k < n) : bil n A (unit k) (unit k) = A k k := by
 unfold bil
 rw [sumZ_one (i := k) hk fun i _ hne => sumZ_zero fun j _ => by unfold unit; rw [if_neg (Ne.symm hne), Int.zero_mul], sumZ_one (i := k) hk fun j _ hne => by unfold unit; rw [if_neg (Ne.symm hne), Int.mul_zero, Int.mul_zero]]
 unfold unit
 rw [if_pos rfl, Int.mul_one, Int.one_mul]
theorem Pd.corner : ∀ {n : Nat} {A : Mx}, Sym n A -> Pd n A -> Corner n A
 | 0, A, _, _ => fun k h0 hk => by omega
 | n + 1, A, hs, hp => by
  have h1 : 0 < A 0 0 := by
   obtain ⟨p1, p2⟩ := hp (unit 0)
   rw [bil_one (n + 1) A (by omega)] at p1 p2
   rcases Int.lt_or_le 0 (A 0 0) with h | h
   ·exact h
   ·have := p2 (by omega) 0 (by omega)
    exact absurd this (by simp [unit])
  have key : ∀ y : Nat -> Int, ∃ x : Nat -> Int, (∀ i, x (i + 1) = A 0 0 * y i) /\ bil (n + 1) A x x = A 0 0 * bil n (lessM A) y y := fun y => by
   refine ⟨fun i => match i with | 0 => -sumZ n (fun j => A 0 (j + 1) * y j) | i + 1 => A 0 0 * y i, fun i => rfl, ?_⟩
   generalize hx : (fun i => match i with | 0 => -sumZ n (fun j => A 0 (j + 1) * y j) | i + 1 => A 0 0 * y i : Nat -> Int) = x
   have x0 : x 0 = -sumZ n (fun j => A 0 (j + 1) * y j) := by rw [<- hx]
   have xs : ∀ i, x (i + 1) = A 0 0 * y i := fun i => by rw [<- hx]
   have hb := bil_less n A hs x
   have e1 : sumZ (n + 1) (fun j => A 0 j * x j) = 0 := by
    rw [sumZ_front, x0]
    have : sumZ n (fun j => A 0 (j + 1) * x (j + 1)) = A 0 0 * sumZ n (fun j => A 0 (j + 1) * y j) := by
     rw [<- sumZ_mul]
     exact sumZ_congr fun j hj => by rw [xs, Int.mul_left_comm]
    rw [this, Int.mul_neg]
    omega
   have e2 : bil n (lessM A) (fun i => x (i + 1)) (fun i => x (i + 1)) = A 0 0 * (A 0 0 * bil n (lessM A) y y) := by
    rw [<- Int.mul_assoc, <- bil_scale]
    exact bil_congr (fun _ _ _ _ => rfl) (fun i _ => xs i) fun i _ => xs i
   rw [e1, e2, Int.mul_zero, Int.zero_add] at hb
   exact Int.eq_of_mul_eq_mul_left (by omega) hb
  have hp' : Pd n (lessM A) := fun y => by
   obtain ⟨x, xs, hx⟩ := key y
   obtain ⟨p1, p2⟩ := hp x
   rw [hx] at p1 p2
   refine ⟨?_, fun h0 i hi => ?_⟩
   ·rcases Int.lt_or_le (bil n (lessM A) y y) 0 with h | h
    ·have := Int.mul_pos h1 (show 0 < -bil n (lessM A) y y by omega)
     rw [Int.mul_neg] at this
     omega
    ·exact h
   ·have := p2 (by rw [h0, Int.mul_zero]) (i + 1) (by omega)
    rw [xs] at this
    rcases Int.mul_eq_zero.1 this with h | h
    ·omega
    ·exact h
  have hc := hp'.corner (less_sym hs)
  intro k h0 hk
  cases k with
  | zero => omega
  | succ k =>
   cases k with
   | zero =>
    show 0 < 0 + 1 * (A 0 0 * 1)
    omega
   | succ k =>
    have h2 := hc (k + 1) (by omega) (by omega)
    have h3 := chio (k + 1) A
    have h4 := Int.mul_pos h1 h2
    rw [h3] at h4
    rcases Int.lt_or_le 0 (det (k + 1 + 1) A) with h5 | h5
    ·exact h5
    ·have h6 := Int.mul_nonneg (show 0 <= A 0 0 ^ (k + 1) by exact Int.le_of_lt (Int.pow_pos h1)) (show 0 <= -det (k + 1 + 1) A by omega)
     rw [Int.mul_neg] at h6
     omega
theorem mulX_assoc (n : Nat) (A B C : Mx) (i k : Nat) : mulX n (mulX n A B) C i k = mulX n A (mulX n B C) i k := by
 show sumZ n (fun t => sumZ n (fun s => A i s * B s t) * C t k) = sumZ n fun s => A i s * sumZ n fun t => B s t * C t k
 have e : sumZ n (fun t => sumZ n (fun s => A i s * B s t) * C t k) = sumZ n fun t => sumZ n fun s => A i s * (B s t * C t k) := sumZ_congr fun t ht => by
  rw [Int.mul_comm, <- sumZ_mul]
  exact sumZ_congr fun s hs => by rw [Int.mul_comm, Int.mul_assoc]
 rw [e, sumZ_swap]
 exact sumZ_congr fun s hs => by rw [sumZ_mul]
end Go.Sh.Of

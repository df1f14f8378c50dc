/- Matrices of whole numbers: plain laws of products, sums, transposes. -/
import Derived.Test.YtcecdmacoklhpaaMadeQ
set_option linter.unusedVariables false
set_option linter.unusedSimpArgs false
namespace Go.Sh.Of
open Go

theorem matOfE_len (E : Nat → Nat → Int) (n k : Nat) : (matOfE E n k).length = n := by simp [matOfE]
theorem matOfE_zero (E : Nat → Nat → Int) (k : Nat) : matOfE E 0 k = [] := rfl
theorem matOfE_get {E : Nat → Nat → Int} {n k i : Nat} (h : i < n) : (matOfE E n k)[i]? = some (rowOfE E k i) := by simp [matOfE, h]
theorem ent_matOfE {E : Nat → Nat → Int} {n k i j : Nat} (hi : i < n) (hj : j < k) : ent (matOfE E n k) i j = E i j := ent_get (matOfE_get hi) (rowOfE_get hj)
theorem colsOf_matOfE {E : Nat → Nat → Int} {n k : Nat} (h : 0 < n) : colsOf (matOfE E n k) = k := by
  unfold colsOf
  rw [matOfE_get h, Option.getD_some, rowOfE_len]
theorem matOfE_congr {E E' : Nat → Nat → Int} {n k : Nat} (h : ∀ i j, i < n → j < k → E i j = E' i j) : matOfE E n k = matOfE E' n k := by
  unfold matOfE
  apply List.map_congr_left
  intro i hi
  unfold rowOfE
  apply List.map_congr_left
  intro j hj
  exact h i j (List.mem_range.1 hi) (List.mem_range.1 hj)
theorem colsOf_nil : colsOf [] = 0 := rfl
/-- A matrix of the package: at most 16 rows and columns, entries of at most 4096 bits. -/
structure Good (A : List (List Int)) : Prop where
  rect : ∀ r ∈ A, r.length = colsOf A
  cols : A ≠ [] → 1 ≤ colsOf A ∧ colsOf A ≤ 16
  rows : A.length ≤ 16
  big : ∀ r ∈ A, ∀ z ∈ r, z.natAbs < 2 ^ 4096
theorem Good.nil : Good [] := ⟨(fun r hr => by cases hr), (fun h => absurd rfl h), by simp, (fun r hr => by cases hr)⟩
theorem Good.c16 {A : List (List Int)} (h : Good A) : colsOf A ≤ 16 := by
  by_cases ha : A = []
  · subst ha; simp [colsOf]
  · exact (h.cols ha).2
theorem Good.self {A : List (List Int)} (h : Good A) : matOfE (ent A) A.length (colsOf A) = A := matOfE_self h.rect
theorem Good.at {A : List (List Int)} (h : Good A) {i j : Nat} (hi : i < A.length) (hj : j < colsOf A) : ∃ r, A[i]? = some r ∧ r[j]? = some (ent A i j) ∧ (ent A i j).natAbs < 2 ^ 4096 := by
  have h1 : A[i]? = some A[i] := List.getElem?_eq_getElem hi
  have hm := List.getElem_mem hi
  have hl := h.rect _ hm
  have h2 : (A[i])[j]? = some (A[i])[j] := List.getElem?_eq_getElem (by omega)
  refine ⟨_, h1, ?_⟩
  rw [ent_get h1 h2]
  exact ⟨h2, h.big _ hm _ (List.getElem_mem _)⟩
theorem Good.ofE {E : Nat → Nat → Int} {n k : Nat} (hn : n ≤ 16) (hk : k ≤ 16) (h0 : 0 < n → 0 < k) (hE : ∀ i j, i < n → j < k → (E i j).natAbs < 2 ^ 4096) : Good (matOfE E n k) := by
  by_cases hz : n = 0
  · subst hz; exact Good.nil
  · have hp : 0 < n := by omega
    have hc := colsOf_matOfE (E := E) (k := k) hp
    refine ⟨fun r hr => ?_, fun _ => by rw [hc]; have := h0 hp; omega, by rw [matOfE_len]; exact hn, fun r hr z hz' => ?_⟩
    · obtain ⟨i, _, rfl⟩ := List.mem_map.1 hr
      rw [hc, rowOfE_len]
    · obtain ⟨i, hi, rfl⟩ := List.mem_map.1 hr
      obtain ⟨j, hj, rfl⟩ := List.mem_map.1 hz'
      exact hE i j (List.mem_range.1 hi) (List.mem_range.1 hj)
/-- Two that have the same entries. -/
theorem Good.ext {A B : List (List Int)} (ha : Good A) (hb : Good B) (h1 : A.length = B.length) (h2 : colsOf A = colsOf B) (h3 : ∀ i j, i < A.length → j < colsOf A → ent A i j = ent B i j) : A = B := by
  rw [← ha.self, ← hb.self, ← h1, ← h2]
  exact matOfE_congr h3
/-! ### Sums of products -/
def dotFrom (f g : Nat → Int) : Nat → Nat → Int → Int
  | x, 0, s => s
  | x, m + 1, s => dotFrom f g (x + 1) m (s + f x * g x)
/-- The error on the way: a product or a sum that is too long. -/
def errFrom (f g : Nat → Int) : Nat → Nat → Int → Int
  | x, 0, s => 0
  | x, m + 1, s => if (f x * g x).natAbs < 2 ^ 4096 then (if (s + f x * g x).natAbs < 2 ^ 4096 then errFrom f g (x + 1) m (s + f x * g x) else 3) else 3
theorem errFrom_step {f g : Nat → Int} {m x : Nat} {s : Int} (h : errFrom f g x (m + 1) s = 0) : (f x * g x).natAbs < 2 ^ 4096 ∧ (s + f x * g x).natAbs < 2 ^ 4096 ∧ errFrom f g (x + 1) m (s + f x * g x) = 0 := by
  unfold errFrom at h
  split at h
  · split at h
    · exact ⟨by assumption, by assumption, h⟩
    · cases h
  · cases h
theorem dotFrom_lt {f g : Nat → Int} (m : Nat) : ∀ {x : Nat} {s : Int}, s.natAbs < 2 ^ 4096 → errFrom f g x m s = 0 → (dotFrom f g x m s).natAbs < 2 ^ 4096 := by
  induction m with
  | zero => intro x s hs _; exact hs
  | succ m ih =>
    intro x s hs h
    obtain ⟨_, h2, h3⟩ := errFrom_step h
    exact ih h2 h3
/-- Sums, by their end. -/
def sumTo (F : Nat → Int) : Nat → Int
  | 0 => 0
  | k + 1 => sumTo F k + F k
theorem dotFrom_sum (f g : Nat → Int) : ∀ (m x : Nat), dotFrom f g x m (sumTo (fun y => f y * g y) x) = sumTo (fun y => f y * g y) (x + m)
  | 0, x => rfl
  | m + 1, x => by
    simp only [dotFrom]
    rw [show sumTo (fun y => f y * g y) x + f x * g x = sumTo (fun y => f y * g y) (x + 1) from rfl, dotFrom_sum f g m (x + 1), show x + 1 + m = x + (m + 1) by omega]
theorem dot_sum (f g : Nat → Int) (m : Nat) : dotFrom f g 0 m 0 = sumTo (fun y => f y * g y) m := by
  have := dotFrom_sum f g m 0
  rwa [Nat.zero_add] at this
theorem sumTo_congr {F G : Nat → Int} : ∀ {k : Nat}, (∀ x, x < k → F x = G x) → sumTo F k = sumTo G k
  | 0, _ => rfl
  | k + 1, h => by rw [sumTo, sumTo, sumTo_congr (fun x hx => h x (by omega)), h k (by omega)]
theorem sumTo_add (F G : Nat → Int) : ∀ (k : Nat), sumTo (fun x => F x + G x) k = sumTo F k + sumTo G k
  | 0 => rfl
  | k + 1 => by simp only [sumTo]; rw [sumTo_add F G k]; omega
theorem sumTo_mulr (F : Nat → Int) (c : Int) : ∀ (k : Nat), sumTo (fun x => F x * c) k = sumTo F k * c
  | 0 => by simp [sumTo]
  | k + 1 => by simp only [sumTo]; rw [sumTo_mulr F c k, Int.add_mul]
theorem sumTo_mull (F : Nat → Int) (c : Int) : ∀ (k : Nat), sumTo (fun x => c * F x) k = c * sumTo F k
  | 0 => by simp [sumTo]
  | k + 1 => by simp only [sumTo]; rw [sumTo_mull F c k, Int.mul_add]
theorem sumTo_zero : ∀ (k : Nat), sumTo (fun _ => 0) k = 0
  | 0 => rfl
  | k + 1 => by simp only [sumTo]; rw [sumTo_zero k]; rfl
theorem sumTo_swap (F : Nat → Nat → Int) (n : Nat) : ∀ (k : Nat), sumTo (fun x => sumTo (fun y => F x y) n) k = sumTo (fun y => sumTo (fun x => F x y) k) n
  | 0 => (sumTo_zero n).symm
  | k + 1 => by
    simp only [sumTo]
    rw [sumTo_swap F n k, ← sumTo_add]
/-! ### Products -/
def dotE (A B : List (List Int)) (i j : Nat) : Int := dotFrom (ent A i) (fun x => ent B x j) 0 (colsOf A) 0
def dotErr (A B : List (List Int)) (i j : Nat) : Int := errFrom (ent A i) (fun x => ent B x j) 0 (colsOf A) 0
def mulM (A B : List (List Int)) : List (List Int) := matOfE (dotE A B) A.length (colsOf B)
def mulE (A B : List (List Int)) : Int := if colsOf A = B.length then stOut (dotErr A B) (colsOf B) 0 A.length 0 else 5
def addEnt (A B : List (List Int)) (i j : Nat) : Int := ent A i j + ent B i j
def addErr (A B : List (List Int)) (i j : Nat) : Int := errZ (ent A i j + ent B i j)
def addM (A B : List (List Int)) : List (List Int) := matOfE (addEnt A B) A.length (colsOf A)
def addE (A B : List (List Int)) : Int := if A.length = B.length ∧ colsOf A = colsOf B then stOut (addErr A B) (colsOf A) 0 A.length 0 else 5
def trM (A : List (List Int)) : List (List Int) := matOfE (fun i j => ent A j i) (colsOf A) A.length
theorem stIn_all {err : Nat → Nat → Int} {i : Nat} : ∀ {m j : Nat}, stIn err i j m 0 = 0 → ∀ x, j ≤ x → x < j + m → err i x = 0
  | 0, j, h, x, h1, h2 => by omega
  | m + 1, j, h, x, h1, h2 => by
    simp only [stIn, if_pos] at h
    have h0 := stIn_zero h
    rw [h0] at h
    by_cases hx : x = j
    · rw [hx]; exact h0
    · exact stIn_all h x (by omega) (by omega)
theorem stOut_zero {err : Nat → Nat → Int} {cols m i : Nat} {st : Int} (h : stOut err cols i m st = 0) : st = 0 := Decidable.byContradiction fun hn => hn (by rw [stOut_ne hn] at h; exact h)
theorem stOut_all {err : Nat → Nat → Int} {cols : Nat} : ∀ {m i : Nat}, stOut err cols i m 0 = 0 → ∀ y x, i ≤ y → y < i + m → x < cols → err y x = 0
  | 0, i, h, y, x, h1, h2, h3 => by omega
  | m + 1, i, h, y, x, h1, h2, h3 => by
    simp only [stOut] at h
    have h0 := stOut_zero h
    rw [h0] at h
    by_cases hy : y = i
    · subst hy; exact stIn_all h0 x (by omega) (by omega)
    · exact stOut_all h y x (by omega) (by omega) h3
theorem mulM_good {A B : List (List Int)} (ha : Good A) (hb : Good B) (h : mulE A B = 0) : Good (mulM A B) := by
  unfold mulE at h
  split at h
  · rename_i hs
    refine Good.ofE ha.rows hb.c16 (fun hp => ?_) fun i j hi hj => ?_
    · have hA : A ≠ [] := fun e => by rw [e] at hp; simp at hp
      have := (ha.cols hA).1
      have hB : B ≠ [] := fun e => by rw [e] at hs; simp at hs; omega
      exact (hb.cols hB).1
    · exact dotFrom_lt _ (Nat.two_pow_pos 4096) (stOut_all h i j (by omega) (by omega) hj)
  · cases h
theorem addM_good {A B : List (List Int)} (ha : Good A) (h : addE A B = 0) : Good (addM A B) := by
  unfold addE at h
  split at h
  · refine Good.ofE ha.rows ha.c16 (fun hp => ?_) fun i j hi hj => ?_
    · have hA : A ≠ [] := fun e => by rw [e] at hp; simp at hp
      exact (ha.cols hA).1
    · have := stOut_all h i j (by omega) (by omega) hj
      unfold addErr errZ at this
      unfold addEnt
      split at this
      · assumption
      · cases this
  · cases h
theorem trM_good {A : List (List Int)} (ha : Good A) : Good (trM A) := by
  refine Good.ofE ha.c16 ha.rows (fun hp => ?_) fun i j hi hj => ?_
  · have hA : A ≠ [] := fun e => by rw [e] at hp; simp [colsOf] at hp
    exact List.length_pos_iff.2 hA
  · obtain ⟨r, _, _, h⟩ := ha.at hj hi
    exact h
theorem ring_assoc {A B C : List (List Int)} (ha : Good A) (hab : colsOf A = B.length) (hbc : colsOf B = C.length) : mulM (mulM A B) C = mulM A (mulM B C) := by
  by_cases hA : A = []
  · subst hA; rfl
  have hp := List.length_pos_iff.2 hA
  have hcA := (ha.cols hA).1
  have e1 : colsOf (mulM A B) = colsOf B := colsOf_matOfE hp
  have e2 : colsOf (mulM B C) = colsOf C := colsOf_matOfE (by omega)
  have e5 : (mulM A B).length = A.length := matOfE_len _ _ _
  rw [show mulM (mulM A B) C = matOfE (dotE (mulM A B) C) A.length (colsOf C) by unfold mulM; rw [matOfE_len], show mulM A (mulM B C) = matOfE (dotE A (mulM B C)) A.length (colsOf C) by rw [show mulM A (mulM B C) = matOfE (dotE A (mulM B C)) A.length (colsOf (mulM B C)) from rfl, e2]]
  refine matOfE_congr fun i j hi hj => ?_
  rw [show dotE (mulM A B) C i j = sumTo (fun y => ent (mulM A B) i y * ent C y j) (colsOf B) by unfold dotE; rw [dot_sum, e1], show dotE A (mulM B C) i j = sumTo (fun x => ent A i x * ent (mulM B C) x j) (colsOf A) by unfold dotE; rw [dot_sum]]
  have l1 : sumTo (fun y => ent (mulM A B) i y * ent C y j) (colsOf B) = sumTo (fun y => sumTo (fun x => ent A i x * ent B x y * ent C y j) (colsOf A)) (colsOf B) := sumTo_congr fun y hy => by
    rw [show ent (mulM A B) i y = dotE A B i y from ent_matOfE hi hy]
    unfold dotE
    rw [dot_sum, sumTo_mulr]
  have l2 : sumTo (fun x => ent A i x * ent (mulM B C) x j) (colsOf A) = sumTo (fun x => sumTo (fun y => ent A i x * ent B x y * ent C y j) (colsOf B)) (colsOf A) := sumTo_congr fun x hx => by
    rw [show ent (mulM B C) x j = dotE B C x j from ent_matOfE (by omega) hj]
    unfold dotE
    rw [dot_sum, ← sumTo_mull]
    exact sumTo_congr fun y _ => (Int.mul_assoc _ _ _).symm
  exact (l1.trans (sumTo_swap (fun x y => ent A i x * ent B x y * ent C y j) (colsOf B) (colsOf A)).symm).trans l2.symm
theorem ring_trans {A B : List (List Int)} (ha : Good A) (hb : Good B) (hab : colsOf A = B.length) : trM (mulM A B) = mulM (trM B) (trM A) := by
  by_cases hA : A = []
  · subst hA
    have : B = [] := List.eq_nil_of_length_eq_zero (by rw [← hab]; rfl)
    subst this
    rfl
  have hp := List.length_pos_iff.2 hA
  have hcA := (ha.cols hA).1
  have hB : B ≠ [] := fun e => by rw [e] at hab; simp at hab; omega
  have hcB := (hb.cols hB).1
  have e1 : colsOf (mulM A B) = colsOf B := colsOf_matOfE hp
  have e2 : colsOf (trM A) = A.length := colsOf_matOfE (by omega)
  have e3 : colsOf (trM B) = B.length := colsOf_matOfE (by omega)
  have e4 : (trM B).length = colsOf B := matOfE_len _ _ _
  have e5 : (mulM A B).length = A.length := matOfE_len _ _ _
  rw [show trM (mulM A B) = matOfE (fun i j => ent (mulM A B) j i) (colsOf B) A.length by unfold trM; rw [e1, e5], show mulM (trM B) (trM A) = matOfE (dotE (trM B) (trM A)) (colsOf B) A.length by unfold mulM; rw [e2, e4]]
  refine matOfE_congr fun i j hi hj => ?_
  rw [show ent (mulM A B) j i = dotE A B j i from ent_matOfE hj hi]
  unfold dotE
  rw [dot_sum, dot_sum, e3, hab]
  refine sumTo_congr fun x hx => ?_
  rw [show ent (trM B) i x = ent B x i from ent_matOfE hi hx, show ent (trM A) x j = ent A j x from ent_matOfE (by omega) hj, Int.mul_comm]
theorem ring_dist {A B C : List (List Int)} (ha : Good A) (hab : colsOf A = B.length) (hbc : B.length = C.length) (hcc : colsOf B = colsOf C) : mulM A (addM B C) = addM (mulM A B) (mulM A C) := by
  by_cases hA : A = []
  · subst hA; rfl
  have hp := List.length_pos_iff.2 hA
  have hcA := (ha.cols hA).1
  have e1 : colsOf (addM B C) = colsOf B := colsOf_matOfE (by omega)
  have e2 : colsOf (mulM A B) = colsOf B := colsOf_matOfE hp
  have e5 : (mulM A B).length = A.length := matOfE_len _ _ _
  rw [show mulM A (addM B C) = matOfE (dotE A (addM B C)) A.length (colsOf B) by unfold mulM; rw [e1], show addM (mulM A B) (mulM A C) = matOfE (addEnt (mulM A B) (mulM A C)) A.length (colsOf B) by unfold addM; rw [e2, e5]]
  refine matOfE_congr fun i j hi hj => ?_
  unfold addEnt
  rw [show ent (mulM A B) i j = dotE A B i j from ent_matOfE hi hj, show ent (mulM A C) i j = dotE A C i j from ent_matOfE hi (hcc ▸ hj)]
  unfold dotE
  rw [dot_sum, dot_sum, dot_sum, ← sumTo_add]
  refine sumTo_congr fun x hx => ?_
  rw [show ent (addM B C) x j = ent B x j + ent C x j from ent_matOfE (by omega) hj, Int.mul_add]
theorem ring_twice {A : List (List Int)} (ha : Good A) : trM (trM A) = A := by
  by_cases hA : A = []
  · subst hA; rfl
  have hp := List.length_pos_iff.2 hA
  have hcA := (ha.cols hA).1
  have e2 : colsOf (trM A) = A.length := colsOf_matOfE (by omega)
  have e4 : (trM A).length = colsOf A := matOfE_len _ _ _
  have h1 : trM (trM A) = matOfE (fun i j => ent (trM A) j i) A.length (colsOf A) := by
    rw [show trM (trM A) = matOfE (fun i j => ent (trM A) j i) (colsOf (trM A)) (trM A).length from rfl, e2, e4]
  rw [h1]
  conv => rhs; rw [← ha.self]
  exact matOfE_congr fun i j hi hj => ent_matOfE hj hi
end Go.Sh.Of

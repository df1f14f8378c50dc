/- Contracts of gram: Det, Change. -/
import Derived.Test.YtkgbokkeemjkkaaGreatDot
set_option linter.unusedVariables false
set_option linter.unusedSimpArgs false
namespace Go.Sh.Of
open Go Go.Sh
variable {A B : List (List Int)}
theorem errFrom_zero {f g : Nat -> Int} {b : Nat} : ∀ (m x : Nat) (s : Int), (∀ y, x <= y -> y < x + m -> (f y * g y).natAbs <= b) -> s.natAbs + m * b < 2 ^ 4096 -> errFrom f g x m s = 0
 | 0, x, s, _, _ => rfl
 | m + 1, x, s, h, hs => by
  have h1 := h x (Nat.le_refl _) (by omega)
  have h2 : (s + f x * g x).natAbs <= s.natAbs + b := Nat.le_trans (Int.natAbs_add_le _ _) (Nat.add_le_add_left h1 _)
  have e : (m + 1) * b = m * b + b := Nat.succ_mul m b
  rw [e] at hs
  generalize hB : 2 ^ 4096 = BB at hs
  unfold errFrom
  rw [hB, if_pos (by omega), if_pos (by omega)]
  have := errFrom_zero (f := f) (g := g) (b := b) m (x + 1) (s + f x * g x) (fun y h3 h4 => h y (by omega) (by omega)) (by rw [hB]; omega)
  exact this
def EntLe (A : List (List Int)) (b : Nat) : Prop := ∀ i j, i < A.length -> j < colsOf A -> (ent A i j).natAbs <= b
theorem mulE_zero {p q : Nat} (hA : EntLe A p) (hB : EntLe B q) (hc : colsOf A = B.length) (h : colsOf A * (p * q) < 2 ^ 4096) : mulE A B = 0 := by
 unfold mulE
 rw [if_pos hc]
 have key : ∀ i j, i < A.length -> j < colsOf B -> dotErr A B i j = 0 := fun i j hi hj => errFrom_zero (b := p * q) (colsOf A) 0 0 (fun y _ hy => by
  rw [Int.natAbs_mul]
  exact Nat.mul_le_mul (hA i y hi (by omega)) (hB y j (by omega) hj)) (by rw [Int.natAbs_zero, Nat.zero_add]; exact h)
 have inn : ∀ (i m j : Nat), i < A.length -> j + m = colsOf B -> stIn (dotErr A B) i j m 0 = 0 := by
  intro i m
  induction m with
  | zero => intro j _ _; rfl
  | succ m ih =>
   intro j hi hj
   show stIn (dotErr A B) i (j + 1) m (if (0 : Int) = 0 then dotErr A B i j else 0) = 0
   rw [if_pos rfl, key i j hi (by omega)]
   exact ih (j + 1) hi (by omega)
 have out : ∀ (m i : Nat), i + m = A.length -> stOut (dotErr A B) (colsOf B) i m 0 = 0 := by
  intro m
  induction m with
  | zero => intro i _; rfl
  | succ m ih =>
   intro i hi
   show stOut (dotErr A B) (colsOf B) (i + 1) m (stIn (dotErr A B) i 0 (colsOf B) 0) = 0
   rw [inn i (colsOf B) 0 (by omega) (by omega)]
   exact ih (i + 1) (by omega)
 exact out A.length 0 (by omega)
theorem sumTo_sumZ (F : Nat -> Int) : ∀ n : Nat, sumTo F n = sumZ n F
 | 0 => rfl
 | n + 1 => by
  show sumTo F n + F n = sumZ n F + F n
  rw [sumTo_sumZ F n]
theorem dotE_mulX (i j : Nat) : dotE A B i j = mulX (colsOf A) (ent A) (ent B) i j := by
 unfold dotE
 rw [dot_sum, sumTo_sumZ]
 rfl
def chgM (A U : List (List Int)) : List (List Int) := mulM (mulM U A) (trM U)
def chgE (A U : List (List Int)) : Int :=
 if chkE A ≠ 0 then chkE A else if U.length ≠ A.length then 5 else if colsOf U ≠ A.length then 5 else if sqE U ≠ 0 then sqE U else if detR U = 0 then 50 else
  if mulE U A ≠ 0 then 3 else if mulE (mulM U A) (trM U) ≠ 0 then 3 else if allFit (chgM A U) then (if outB (fun i j => smallB (ent (chgM A U) i j)) (chgM A U) 0 then 0 else 3) else 3
theorem detR_small' {R : List (List Int)} (hg : Good R) (h : sqE R = 0) : (detR R).natAbs < 2 ^ 4096 := by
 have hw : wideB R = false /\ R.length = colsOf R := by
  unfold sqE at h
  split at h
  ·cases h
  ·rename_i h2
   cases hb : wideB R with
   | true => rw [hb] at h; cases h
   | false => exact ⟨rfl, Decidable.byContradiction fun h3 => h2 h3⟩
 have hb := wide_bd hw.1
 rw [<- hw.2, Nat.min_self] at hb
 rw [detR_det' hw.2]
 by_cases h0 : R.length = 0
 ·rw [h0]
  exact one_big
 ·refine hb.small (by omega) (s := R.length) (by omega) ?_
  rw [hb.hX]
  exact det_abs (Nat.le_refl _) fun i k hi hk => hb.ent i k hi hk
theorem chg_run (K d : Nat) (H : Heap) (a u : SV) : runQ wk tab slow K (d + 21) 9 [a, u] H = f9 slow K (runQ wk tab slow K (d + 20)) a u H := Eq.trans rfl rfl
theorem chgM_ent {U : List (List Int)} (hs : Sq A) (h1 : U.length = A.length) (h2 : colsOf U = A.length) : (chgM A U).length = A.length /\ colsOf (chgM A U) = A.length /\ ∀ i j, i < A.length -> j < A.length -> ent (chgM A U) i j = chM A.length (ent A) (ent U) i j := by
 have h0 := hs.n0
 have hc := hs.cols
 have lP : (mulM U A).length = A.length := (matOfE_len _ _ _).trans h1
 have cP : colsOf (mulM U A) = A.length := by unfold mulM; rw [colsOf_matOfE (by omega), hc]
 have lT : (trM U).length = A.length := (matOfE_len _ _ _).trans h2
 have cT : colsOf (trM U) = A.length := by unfold trM; rw [colsOf_matOfE (by omega), h1]
 refine ⟨(matOfE_len _ _ _).trans lP, by unfold chgM; rw [show mulM (mulM U A) (trM U) = matOfE (dotE (mulM U A) (trM U)) (mulM U A).length (colsOf (trM U)) from rfl, colsOf_matOfE (by omega), cT], fun i j hi hj => ?_⟩
 rw [show ent (chgM A U) i j = dotE (mulM U A) (trM U) i j from ent_matOfE (by omega) (by omega), dotE_mulX, cP]
 refine sumZ_congr fun t ht => ?_
 rw [show ent (mulM U A) i t = dotE U A i t from ent_matOfE (by omega) (by omega), dotE_mulX, h2, show ent (trM U) t j = ent U j t from ent_matOfE (E := fun i j => ent U j i) (by omega) (by omega)]
 rfl
end Go.Sh.Of

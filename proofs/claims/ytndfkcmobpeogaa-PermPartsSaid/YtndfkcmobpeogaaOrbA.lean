/- Points in orbits: the plain law. What two forests say of least points is one. -/
import Derived.Test.YtndfkcmobpeogaaSh31
set_option linter.unusedVariables false
set_option linter.unusedSimpArgs false
namespace Go.Sh.Of
open Go

/-- Led to one another by pairs. -/
inductive Conn (E : Nat → Nat → Prop) : Nat → Nat → Prop
  | refl (i : Nat) : Conn E i i
  | step {i j : Nat} : E i j → Conn E i j
  | symm {i j : Nat} : Conn E i j → Conn E j i
  | trans {i j k : Nat} : Conn E i j → Conn E j k → Conn E i k
theorem Conn.const {E : Nat → Nat → Prop} {F : Nat → Nat} (h : ∀ i j, E i j → F i = F j) {i j : Nat} (c : Conn E i j) : F i = F j := by
  induction c with
  | refl i => rfl
  | step e => exact h _ _ e
  | symm _ ih => exact ih.symm
  | trans _ _ ih1 ih2 => exact ih1.trans ih2
/-- The least point of each orbit: by whatever way. -/
theorem least_uniq {E : Nat → Nat → Prop} {F G : Nat → Nat} (f1 : ∀ i, F i ≤ i) (f2 : ∀ i, Conn E i (F i)) (f3 : ∀ i j, E i j → F i = F j) (g1 : ∀ i, G i ≤ i) (g2 : ∀ i, Conn E i (G i)) (g3 : ∀ i j, E i j → G i = G j) (i : Nat) : F i = G i := by
  have a1 : F (G i) = F i := (Conn.const f3 (g2 i)).symm
  have a2 : G (F i) = G i := (Conn.const g3 (f2 i)).symm
  have := f1 (G i)
  have := g1 (F i)
  omega
/-- A point's root. -/
def root (U : List Nat) (i : Nat) : Nat := if h : U.getD i i < i then root U (U.getD i i) else i
termination_by i
theorem root_step {U : List Nat} {i : Nat} (h : U.getD i i < i) : root U i = root U (U.getD i i) := by
  conv => lhs; rw [root, dif_pos h]
theorem root_self {U : List Nat} {i : Nat} (h : ¬ U.getD i i < i) : root U i = i := by rw [root, dif_neg h]
theorem root_le (U : List Nat) (i : Nat) : root U i ≤ i := by
  induction i using Nat.strongRecOn with
  | ind i ih =>
    by_cases h : U.getD i i < i
    · rw [root_step h]
      have := ih _ h
      omega
    · rw [root_self h]; exact Nat.le_refl i
theorem root_is (U : List Nat) (i : Nat) : ¬ U.getD (root U i) (root U i) < root U i := by
  induction i using Nat.strongRecOn with
  | ind i ih =>
    by_cases h : U.getD i i < i
    · rw [root_step h]; exact ih _ h
    · rw [root_self h]; exact h
theorem root_root (U : List Nat) (i : Nat) : root U (root U i) = root U i := root_self (root_is U i)
/-- Each points at itself or below. -/
def Down (U : List Nat) : Prop := ∀ (i x : Nat), U[i]? = some x → x ≤ i
theorem getD_of {U : List Nat} {i x d : Nat} (h : U[i]? = some x) : U.getD i d = x := by simp [List.getD, h]
theorem getD_set_self {U : List Nat} {i v d : Nat} (h : i < U.length) : (U.set i v).getD i d = v := by simp [List.getD, h]
theorem getD_set_ne {U : List Nat} {i j v d : Nat} (h : i ≠ j) : (U.set i v).getD j d = U.getD j d := by simp [List.getD, List.getElem?_set_ne h]
theorem Down.get {U : List Nat} (h : Down U) (i : Nat) : U.getD i i ≤ i := by
  unfold List.getD
  cases hu : U[i]? with
  | none => exact Nat.le_refl i
  | some x => exact h i x hu
theorem Down.set {U : List Nat} (h : Down U) {i v : Nat} (hv : v ≤ i) : Down (U.set i v) := fun j x hx => by
  by_cases hj : i = j
  · subst hj
    have hi : i < U.length := by have := (List.getElem?_eq_some_iff.1 hx).1; simpa using this
    rw [List.getElem?_set_self hi] at hx
    cases hx
    exact hv
  · rw [List.getElem?_set_ne hj] at hx
    exact h j x hx
/-- Half the way: the roots stay. -/
theorem root_half {U : List Nat} (hd : Down U) {i : Nat} (hi : i < U.length) (j : Nat) : root (U.set i (U.getD (U.getD i i) (U.getD i i))) j = root U j := by
  generalize hw : U.getD (U.getD i i) (U.getD i i) = w
  have hw1 : w ≤ U.getD i i := by rw [← hw]; exact hd.get _
  have hu := hd.get i
  induction j using Nat.strongRecOn with
  | ind j ih =>
    by_cases hj : i = j
    · subst hj
      have e : (U.set i w).getD i i = w := getD_set_self hi
      by_cases h1 : U.getD i i < i
      · rw [root_step (by rw [e]; omega), e, ih w (by omega), root_step h1]
        by_cases h2 : w < U.getD i i
        · conv => rhs; rw [root_step (by rw [hw]; exact h2), hw]
        · rw [show w = U.getD i i by omega]
      · have e2 : U.getD i i = i := by omega
        have e3 : w = i := by rw [← hw, e2, e2]
        rw [root_self (by rw [e]; omega), root_self h1]
    · have e : (U.set i w).getD j j = U.getD j j := getD_set_ne hj
      by_cases h1 : U.getD j j < j
      · rw [root_step (by rw [e]; exact h1), e, ih _ h1, root_step h1]
      · rw [root_self (by rw [e]; exact h1), root_self h1]
/-- Two roots become one. -/
theorem root_join {U : List Nat} {m M : Nat} (hM : M < U.length) (hmM : m ≤ M) (h1 : root U m = m) (h2 : root U M = M) (j : Nat) : root (U.set M m) j = if root U j = M then m else root U j := by
  induction j using Nat.strongRecOn with
  | ind j ih =>
    by_cases hj : M = j
    · subst hj
      have e : (U.set M m).getD M M = m := getD_set_self hM
      rw [h2, if_pos rfl]
      by_cases hlt : m < M
      · rw [root_step (by rw [e]; exact hlt), e, ih m hlt, h1, if_neg (by omega)]
      · rw [root_self (by rw [e]; exact hlt)]; omega
    · have e : (U.set M m).getD j j = U.getD j j := getD_set_ne hj
      by_cases h : U.getD j j < j
      · rw [root_step (by rw [e]; exact h), e, ih _ h, ← root_step h]
      · rw [root_self (by rw [e]; exact h), root_self h, if_neg (fun e => hj e.symm)]
/-- What the orbits are, by the least point of each. -/
def partsBy (F : Nat → Nat) (n i : Nat) : List (List Nat) := ((List.range n).filter fun r => F r == r).map fun r => (List.range i).filter fun j => F j == r
theorem partsBy_congr {F G : Nat → Nat} {n i : Nat} (h : ∀ j, F j = G j) : partsBy F n i = partsBy G n i := by
  have : F = G := funext h
  rw [this]
end Go.Sh.Of

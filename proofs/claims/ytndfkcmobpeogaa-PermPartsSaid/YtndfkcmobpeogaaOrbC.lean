/- Points in orbits: the document's way: least points, again and again. -/
import Derived.Test.YtndfkcmobpeogaaOrbB
set_option linter.unusedVariables false
set_option linter.unusedSimpArgs false
namespace Go.Sh.Of
open Go

/-- A number that each point holds: at most itself, and led to it. -/
structure LInv (E : Nat → Nat → Prop) (n : Nat) (L : List Nat) : Prop where
  len : L.length = n
  le : ∀ (i x : Nat), L[i]? = some x → x ≤ i
  conn : ∀ (i x : Nat), L[i]? = some x → Conn E i x
def stepL (L : List Nat) (i k x y : Nat) : List Nat := (L.set i (min x y)).set k (min x y)
theorem sum_set : ∀ {L : List Nat} {i x v : Nat}, L[i]? = some x → (L.set i v).sum + x = L.sum + v
  | [], i, x, v, h => by simp at h
  | a :: L, 0, x, v, h => by
    simp at h
    subst h
    simp only [List.set_cons_zero, List.sum_cons]
    omega
  | a :: L, i + 1, x, v, h => by
    simp only [List.getElem?_cons_succ] at h
    have := sum_set (v := v) h
    simp only [List.set_cons_succ, List.sum_cons]
    omega
theorem set_same {L : List Nat} {i x : Nat} (h : L[i]? = some x) : L.set i x = L := by
  apply List.ext_getElem?
  intro j
  by_cases hj : i = j
  · subst hj
    rw [List.getElem?_set_self (List.getElem?_eq_some_iff.1 h).1, h]
  · rw [List.getElem?_set_ne hj]
theorem stepL_same {L : List Nat} {i k x : Nat} (hi : L[i]? = some x) (hk : L[k]? = some x) : stepL L i k x x = L := by
  unfold stepL
  rw [Nat.min_self, set_same hi, set_same hk]
theorem stepL_sum {L : List Nat} {i k x y : Nat} (hi : L[i]? = some x) (hk : L[k]? = some y) : (stepL L i k x y).sum ≤ L.sum ∧ (x ≠ y → (stepL L i k x y).sum < L.sum) := by
  unfold stepL
  have h1 := sum_set (v := min x y) hi
  by_cases hik : i = k
  · subst hik
    rw [hi] at hk
    cases hk
    have h2 : (L.set i (min x x))[i]? = some (min x x) := List.getElem?_set_self (List.getElem?_eq_some_iff.1 hi).1
    have h3 := sum_set (v := min x x) h2
    refine ⟨by omega, fun h => absurd rfl h⟩
  · have h2 : (L.set i (min x y))[k]? = some y := by rw [List.getElem?_set_ne hik]; exact hk
    have h3 := sum_set (v := min x y) h2
    refine ⟨by omega, fun h => by omega⟩
theorem LInv.step {E : Nat → Nat → Prop} {n : Nat} {L : List Nat} (h : LInv E n L) {i k x y : Nat} (e : E i k) (hi : L[i]? = some x) (hk : L[k]? = some y) : LInv E n (stepL L i k x y) := by
  have key : ∀ (j z : Nat), (stepL L i k x y)[j]? = some z → L[j]? = some z ∨ ((j = i ∨ j = k) ∧ z = min x y) := fun j z hz => by
    unfold stepL at hz
    by_cases hj : k = j
    · subst hj
      have hlt : k < (L.set i (min x y)).length := by have := (List.getElem?_eq_some_iff.1 hz).1; simpa using this
      rw [List.getElem?_set_self hlt] at hz
      exact .inr ⟨.inr rfl, (Option.some.inj hz).symm⟩
    · rw [List.getElem?_set_ne hj] at hz
      by_cases hj2 : i = j
      · subst hj2
        rw [List.getElem?_set_self (List.getElem?_eq_some_iff.1 hi).1] at hz
        exact .inr ⟨.inl rfl, (Option.some.inj hz).symm⟩
      · rw [List.getElem?_set_ne hj2] at hz
        exact .inl hz
  have hx := h.le i x hi
  have hy := h.le k y hk
  have cx := h.conn i x hi
  have cy := h.conn k y hk
  have cik := Conn.step e
  refine ⟨by simp [stepL, h.len], fun j z hz => ?_, fun j z hz => ?_⟩
  · rcases key j z hz with hj | ⟨hj, rfl⟩
    · exact h.le j z hj
    · rcases hj with rfl | rfl <;> omega
  · rcases key j z hz with hj | ⟨hj, rfl⟩
    · exact h.conn j z hj
    · have hm : Conn E i (min x y) := by
        by_cases hxy : x ≤ y
        · rw [Nat.min_eq_left hxy]; exact cx
        · rw [Nat.min_eq_right (by omega)]; exact cik.trans cy
      rcases hj with rfl | rfl
      · exact hm
      · exact cik.symm.trans hm
theorem sum_le {n : Nat} : ∀ {L : List Nat}, (∀ x ∈ L, x ≤ n) → L.sum ≤ L.length * n
  | [], _ => by simp
  | a :: L, h => by
    have := sum_le (L := L) fun x hx => h x (by simp [hx])
    have := h a (by simp)
    simp only [List.sum_cons, List.length_cons, Nat.succ_mul]
    omega
/-- A list as a function: beyond its end, each point itself. -/
def fnL (L : List Nat) (i : Nat) : Nat := L.getD i i
theorem fnL_get {L : List Nat} {i x : Nat} (h : L[i]? = some x) : fnL L i = x := by simp [fnL, List.getD, h]
theorem fnL_out {L : List Nat} {i : Nat} (h : L.length ≤ i) : fnL L i = i := by simp [fnL, List.getD, List.getElem?_eq_none h]
theorem LInv.fn {E : Nat → Nat → Prop} {n : Nat} {L : List Nat} (h : LInv E n L) : (∀ i, fnL L i ≤ i) ∧ ∀ i, Conn E i (fnL L i) := by
  refine ⟨fun i => ?_, fun i => ?_⟩
  · by_cases hi : i < L.length
    · have hx : L[i]? = some L[i] := List.getElem?_eq_getElem hi
      rw [fnL_get hx]; exact h.le i _ hx
    · rw [fnL_out (by omega)]; exact Nat.le_refl i
  · by_cases hi : i < L.length
    · have hx : L[i]? = some L[i] := List.getElem?_eq_getElem hi
      rw [fnL_get hx]; exact h.conn i _ hx
    · rw [fnL_out (by omega)]; exact Conn.refl i
/-- The forest of the program. -/
structure UInv (E : Nat → Nat → Prop) (n : Nat) (U : List Nat) : Prop where
  len : U.length = n
  down : Down U
  conn : ∀ i, Conn E i (root U i)
theorem UInv.half {E : Nat → Nat → Prop} {n : Nat} {U : List Nat} (h : UInv E n U) {i : Nat} (hi : i < n) : UInv E n (U.set i (U.getD (U.getD i i) (U.getD i i))) ∧ ∀ j, root (U.set i (U.getD (U.getD i i) (U.getD i i))) j = root U j := by
  have hr := root_half h.down (i := i) (by rw [h.len]; exact hi)
  refine ⟨⟨by simp [h.len], h.down.set ?_, fun j => by rw [hr]; exact h.conn j⟩, hr⟩
  have h1 := h.down.get i
  have h2 := h.down.get (U.getD i i)
  omega
theorem UInv.join {E : Nat → Nat → Prop} {n : Nat} {U : List Nat} (h : UInv E n U) {i k : Nat} (e : E i k) (hi : i < n) (hk : k < n) : UInv E n (U.set (max (root U i) (root U k)) (min (root U i) (root U k))) ∧ ∀ j, root (U.set (max (root U i) (root U k)) (min (root U i) (root U k))) j = if root U j = max (root U i) (root U k) then min (root U i) (root U k) else root U j := by
  have hri := root_le U i
  have hrk := root_le U k
  have h1 : root U (min (root U i) (root U k)) = min (root U i) (root U k) := by
    rcases Nat.le_total (root U i) (root U k) with h | h
    · rw [Nat.min_eq_left h, root_root]
    · rw [Nat.min_eq_right h, root_root]
  have h2 : root U (max (root U i) (root U k)) = max (root U i) (root U k) := by
    rcases Nat.le_total (root U i) (root U k) with h | h
    · rw [Nat.max_eq_right h, root_root]
    · rw [Nat.max_eq_left h, root_root]
  have hr := root_join (U := U) (M := max (root U i) (root U k)) (m := min (root U i) (root U k)) (by rw [h.len]; omega) (by omega) h1 h2
  refine ⟨⟨by simp [h.len], h.down.set (by omega), fun j => ?_⟩, hr⟩
  rw [hr]
  split
  · rename_i hj
    have c1 := h.conn j
    rw [hj] at c1
    have cik : Conn E (root U i) (root U k) := ((h.conn i).symm.trans (Conn.step e)).trans (h.conn k)
    have cm : Conn E (max (root U i) (root U k)) (min (root U i) (root U k)) := by
      rcases Nat.le_total (root U i) (root U k) with h | h
      · rw [Nat.max_eq_right h, Nat.min_eq_left h]; exact cik.symm
      · rw [Nat.max_eq_left h, Nat.min_eq_right h]; exact cik
    exact c1.trans cm
  · exact h.conn j
theorem root_join_eq {U : List Nat} {i k : Nat} {V : List Nat} (hr : ∀ j, root V j = if root U j = max (root U i) (root U k) then min (root U i) (root U k) else root U j) : root V i = root V k ∧ ∀ a b, root U a = root U b → root V a = root V b := by
  refine ⟨?_, fun a b h => by rw [hr a, hr b, h]⟩
  rw [hr i, hr k]
  rcases Nat.le_total (root U i) (root U k) with h | h
  · rw [Nat.max_eq_right h, Nat.min_eq_left h]
    rw [if_pos rfl]
    split <;> rfl
  · rw [Nat.max_eq_left h, Nat.min_eq_right h, if_pos rfl]
    split
    · rfl
    · rfl
end Go.Sh.Of

/- Points in orbits: the plain law of what is told. -/
import Derived.Test.YtndfkcmobpeogaaOrbA
set_option linter.unusedVariables false
set_option linter.unusedSimpArgs false
namespace Go.Sh.Of
open Go

/-- The least points, up to i; the orbit of one, up to i. -/
def roots (F : Nat → Nat) (i : Nat) : List Nat := (List.range i).filter fun r => F r == r
def cls (F : Nat → Nat) (i r : Nat) : List Nat := (List.range i).filter fun j => F j == r
def orbsTo (F : Nat → Nat) (i : Nat) : List (List Nat) := (roots F i).map (cls F i)
theorem roots_succ (F : Nat → Nat) (i : Nat) : roots F (i + 1) = roots F i ++ if F i = i then [i] else [] := by
  unfold roots
  rw [List.range_succ, List.filter_append]
  congr 1
  by_cases h : F i = i
  · simp [h]
  · simp [h]
theorem cls_succ (F : Nat → Nat) (i r : Nat) : cls F (i + 1) r = cls F i r ++ if F i = r then [i] else [] := by
  unfold cls
  rw [List.range_succ, List.filter_append]
  congr 1
  by_cases h : F i = r
  · simp [h]
  · simp [h]
theorem roots_lt {F : Nat → Nat} {i r : Nat} (h : r ∈ roots F i) : r < i ∧ F r = r := by
  simp [roots] at h
  exact h
theorem roots_at {F : Nat → Nat} {i q r : Nat} (h : (roots F i)[q]? = some r) : q = (roots F r).length := by
  induction i with
  | zero => simp [roots] at h
  | succ i ih =>
    rw [roots_succ] at h
    by_cases hq : q < (roots F i).length
    · rw [List.getElem?_append_left hq] at h
      exact ih h
    · rw [List.getElem?_append_right (by omega)] at h
      by_cases hF : F i = i
      · rw [if_pos hF] at h
        have hlt := (List.getElem?_eq_some_iff.1 h).1
        simp at hlt
        have hq2 : q - (roots F i).length = 0 := by omega
        rw [hq2] at h
        simp at h
        subst h
        omega
      · rw [if_neg hF] at h
        simp at h
theorem roots_get {F : Nat → Nat} {t i : Nat} (ht : F t = t) (h : t < i) : (roots F i)[(roots F t).length]? = some t := by
  induction i with
  | zero => omega
  | succ i ih =>
    rw [roots_succ]
    by_cases hti : t = i
    · subst hti
      rw [if_pos ht, List.getElem?_append_right (Nat.le_refl _)]
      simp
    · have h1 := ih (by omega)
      rw [List.getElem?_append_left (List.getElem?_eq_some_iff.1 h1).1]
      exact h1
theorem cls_self {F : Nat → Nat} (hF : ∀ j, F j ≤ j) (i : Nat) : cls F i i = [] := by
  unfold cls
  rw [List.filter_eq_nil_iff]
  intro j hj
  have := List.mem_range.1 hj
  have := hF j
  simp
  omega
theorem orbs_new {F : Nat → Nat} (hF : ∀ j, F j ≤ j) {i : Nat} (h : F i = i) : orbsTo F (i + 1) = orbsTo F i ++ [[i]] := by
  unfold orbsTo
  rw [roots_succ, if_pos h, List.map_append]
  congr 1
  · apply List.map_congr_left
    intro r hr
    have := (roots_lt hr).1
    rw [cls_succ, if_neg (by omega), List.append_nil]
  · rw [List.map_singleton, cls_succ, if_pos h, cls_self hF, List.nil_append]
theorem orbs_old {F : Nat → Nat} {i t : Nat} (h : F i = t) (ht : F t = t) (hlt : t < i) : orbsTo F (i + 1) = (orbsTo F i).set (roots F t).length (cls F i t ++ [i]) := by
  unfold orbsTo
  rw [roots_succ, if_neg (by omega), List.append_nil]
  apply List.ext_getElem?
  intro q
  have hg := roots_get (F := F) ht hlt
  have hlen := (List.getElem?_eq_some_iff.1 hg).1
  by_cases hq : (roots F t).length = q
  · subst hq
    rw [List.getElem?_set_self (by simpa using hlen), List.getElem?_map, hg, Option.map_some, cls_succ, if_pos h]
  · rw [List.getElem?_set_ne hq, List.getElem?_map, List.getElem?_map]
    cases hr : (roots F i)[q]? with
    | none => rfl
    | some r =>
      have hrt : F i ≠ r := fun e => hq (by rw [roots_at hr, ← e, h])
      rw [Option.map_some, Option.map_some, cls_succ, if_neg hrt, List.append_nil]
theorem orbs_get {F : Nat → Nat} {i t : Nat} (ht : F t = t) (hlt : t < i) : (orbsTo F i)[(roots F t).length]? = some (cls F i t) := by
  unfold orbsTo
  rw [List.getElem?_map, roots_get ht hlt]
  rfl
theorem orbs_len (F : Nat → Nat) (i : Nat) : (orbsTo F i).length = (roots F i).length := by simp [orbsTo]
theorem roots_len (F : Nat → Nat) (i : Nat) : (roots F i).length ≤ i := by
  unfold roots
  have := List.length_filter_le (fun r => F r == r) (List.range i)
  simpa using this
theorem cls_len (F : Nat → Nat) (i r : Nat) : (cls F i r).length ≤ i := by
  unfold cls
  have := List.length_filter_le (fun j => F j == r) (List.range i)
  simpa using this
/-- Two orbits that are unlike have no point in common; none is empty. -/
theorem orbs_mem {F : Nat → Nat} {i q : Nat} {l : List Nat} (h : (orbsTo F i)[q]? = some l) : ∃ r, r ∈ l ∧ F r = r ∧ q = (roots F r).length ∧ l = cls F i r := by
  unfold orbsTo at h
  rw [List.getElem?_map, Option.map_eq_some_iff] at h
  obtain ⟨r, hr, rfl⟩ := h
  have hm := roots_lt (List.mem_of_getElem? hr)
  refine ⟨r, ?_, hm.2, roots_at hr, rfl⟩
  simp [cls, hm.1, hm.2]
theorem orbs_apart {F : Nat → Nat} {i p q : Nat} {l : List Nat} (h1 : (orbsTo F i)[p]? = some l) (h2 : (orbsTo F i)[q]? = some l) : p = q := by
  obtain ⟨r, m1, f1, e1, c1⟩ := orbs_mem h1
  obtain ⟨s, m2, f2, e2, c2⟩ := orbs_mem h2
  rw [c2] at m1
  simp [cls] at m1
  rw [f1] at m1
  rw [e1, e2, m1.2]
end Go.Sh.Of

/- GramTwice: the walk. -/
import Derived.Test.YtkgbokkeemjkkaaGreatChg
import Derived.Test.YtkgbokkeemjkkaaGreatNorm
set_option linter.unusedVariables false
set_option linter.unusedSimpArgs false
namespace Go.Sh.Of
open Go Go.Sh
variable {U : List (List Int)}
variable {b : Nat}
theorem ent_le (hg : Good U) (hi : ∀ r ∈ U, ∀ z ∈ r, z.natAbs <= b) : EntLe U b := fun i j h1 h2 => by
 obtain ⟨r, e1, e2, _⟩ := hg.at h1 h2
 exact hi r (List.mem_of_getElem? e1) _ (List.mem_of_getElem? e2)
theorem mul_le {A B : List (List Int)} {p q n : Nat} (hA : EntLe A p) (hB : EntLe B q) (hc : colsOf A = B.length) (hn : colsOf A <= n) (h0 : 0 < A.length) : EntLe (mulM A B) (n * (p * q)) := fun i j hi hj => by
 have hl : (mulM A B).length = A.length := matOfE_len _ _ _
 have hcc : colsOf (mulM A B) = colsOf B := colsOf_matOfE h0
 rw [hl] at hi
 rw [hcc] at hj
 rw [show ent (mulM A B) i j = dotE A B i j from ent_matOfE hi hj, dotE_mulX]
 refine Nat.le_trans (natAbs_sum (b := p * q) fun t ht => ?_) (Nat.mul_le_mul_right _ hn)
 rw [Int.natAbs_mul]
 exact Nat.mul_le_mul (hA i t hi ht) (hB t j (by omega) hj)
theorem tr_le (hU : EntLe U b) (h0 : 0 < colsOf U) : EntLe (trM U) b := fun i j hi hj => by
 have hl : (trM U).length = colsOf U := matOfE_len _ _ _
 have hc : colsOf (trM U) = U.length := colsOf_matOfE h0
 rw [hl] at hi
 rw [hc] at hj
 rw [show ent (trM U) i j = ent U j i from ent_matOfE (E := fun i j => ent U j i) hi hj]
 exact hU j i hj hi
end Go.Sh.Of

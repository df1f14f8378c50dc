/- Contracts of gram: dot, Dot, Norm. -/
import Derived.Test.YtkgbokkeemjkkaaGreatChk
set_option linter.unusedVariables false
set_option linter.unusedSimpArgs false
namespace Go.Sh.Of
open Go Go.Sh
variable {p q r : Nat}
def dotS (n : Nat) (A : Mx) (X Y : Nat -> Int) (i j : Nat) : Int := sumZ i (fun a => sumZ n fun b => X a * (A a b * Y b)) + sumZ j fun b => X i * (A i b * Y b)
theorem prod_abs {a b c : Int} (ha : a.natAbs <= p) (hb : b.natAbs <= q) (hc : c.natAbs <= r) : (a * (b * c)).natAbs <= p * (q * r) := by
 rw [Int.natAbs_mul, Int.natAbs_mul]
 exact Nat.mul_le_mul ha (Nat.mul_le_mul hb hc)
theorem dotS_abs {n : Nat} {A : Mx} {X Y : Nat -> Int} (hX : ∀ i, i < n -> (X i).natAbs <= p) (hA : ∀ i j, i < n -> j < n -> (A i j).natAbs <= q) (hY : ∀ i, i < n -> (Y i).natAbs <= r) {i j : Nat} (hi : i <= n) (hj : j <= n) (hij : i < n \/ j = 0) : (dotS n A X Y i j).natAbs <= i * (n * (p * (q * r))) + j * (p * (q * r)) := by
 unfold dotS
 refine Nat.le_trans (Int.natAbs_add_le _ _) (Nat.add_le_add ?_ ?_)
 ·exact natAbs_sum fun a ha => natAbs_sum fun b hb => prod_abs (hX a (by omega)) (hA a b (by omega) hb) (hY b hb)
 ·exact natAbs_sum fun b hb => prod_abs (hX i (by omega)) (hA i b (by omega) (by omega)) (hY b (by omega))
theorem dotS_end (n : Nat) (A : Mx) (X Y : Nat -> Int) : dotS n A X Y n 0 = bil n A X Y := by
 unfold dotS bil
 show _ + (0 : Int) = _
 rw [Int.add_zero]
theorem dotS_row (n : Nat) (A : Mx) (X Y : Nat -> Int) (i : Nat) : dotS n A X Y i n = dotS n A X Y (i + 1) 0 := by
 unfold dotS
 show _ = (sumZ i (fun a => sumZ n fun b => X a * (A a b * Y b)) + sumZ n fun b => X i * (A i b * Y b)) + (0 : Int)
 rw [Int.add_zero]
theorem dotS_step (n : Nat) (A : Mx) (X Y : Nat -> Int) (i j : Nat) : dotS n A X Y i (j + 1) = dotS n A X Y i j + X i * Y j * A i j := by
 unfold dotS
 rw [sumZ, Int.mul_comm (A i j), <- Int.mul_assoc, Int.add_assoc]
end Go.Sh.Of

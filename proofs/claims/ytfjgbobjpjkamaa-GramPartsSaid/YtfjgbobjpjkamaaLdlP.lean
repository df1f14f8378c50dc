/- L D L^T in plain Lean: the entries are quotients of minors. -/
import Derived.Test.YtfjgbobjpjkamaaDetG
set_option linter.unusedVariables false
set_option linter.unusedSimpArgs false
namespace Go.Sh.Of
open Go
def bI (r : Nat) (A : Mx) (i k : Nat) : Int := bdet r (fun y => y) A i k
theorem bI_pivot (r : Nat) (A : Mx) : bI r A r r = det (r + 1) A := det_congr fun x y hx hy => by
 show A (if x < r then x else r) (if y < r then y else r) = A x y
 rw [show (if x < r then x else r) = x by split <;> omega, show (if y < r then y else r) = y by split <;> omega]
theorem bI_zero (A : Mx) (i k : Nat) : bI 0 A i k = A i k := by
 show 0 + 1 * (A i k * 1) = _
 omega
theorem bI_sym {n : Nat} {A : Mx} (hs : Sym n A) {r i k : Nat} (hr : r <= n) (hi : i < n) (hk : k < n) : bI r A i k = bI r A k i := by
 unfold bI bdet
 rw [<- det_tr]
 refine det_congr fun x y hx hy => ?_
 show A (if y < r then y else i) (if x < r then x else k) = A (if x < r then x else k) (if y < r then y else i)
 refine hs _ _ ?_ ?_ <;> split <;> omega
theorem bI_step {A : Mx} {r i k : Nat} (h : det r A ≠ 0) : det (r + 1) A * bI r A i k - bI r A i r * bI r A r k = det r A * bI (r + 1) A i k := by
 have h1 := bord_step r (fun y => y) A i r k h
 have e : (fun y => if y = r then r else y) = fun y => y := by
  funext y
  split <;> omega
 rw [e] at h1
 rw [<- bI_pivot]
 exact h1
def xR (A : Mx) (k i j : Nat) : Rat := (bI k A i j : Rat) / (det k A : Rat)
def dR (A : Mx) (k : Nat) : Rat := (det (k + 1) A : Rat) / (det k A : Rat)
def lR (A : Mx) (i k : Nat) : Rat := (bI k A i k : Rat) / (det (k + 1) A : Rat)
theorem xR_zero (A : Mx) (i j : Nat) : xR A 0 i j = (A i j : Rat) := by
 unfold xR
 rw [bI_zero]
 have e : ((det 0 A : Int) : Rat) = 1 := rfl
 rw [e]
 grind
theorem xR_pivot (A : Mx) (k : Nat) : xR A k k k = dR A k := by
 unfold xR dR
 rw [bI_pivot]
theorem cast_ne {z : Int} (h : z ≠ 0) : (z : Rat) ≠ 0 := by
 intro e
 exact h (by exact_mod_cast e)
theorem xR_div {A : Mx} {i k : Nat} (h0 : det k A ≠ 0) (h1 : det (k + 1) A ≠ 0) : xR A k i k / dR A k = lR A i k := by
 unfold xR dR lR
 have a := cast_ne h0
 have b := cast_ne h1
 grind
theorem xR_step {n : Nat} {A : Mx} (hs : Sym n A) {i j k : Nat} (hi : i < n) (hj : j < n) (hk : k < n) (h0 : det k A ≠ 0) (h1 : det (k + 1) A ≠ 0) : xR A (k + 1) i j = xR A k i j - lR A i k * dR A k * lR A j k := by
 have h := bI_step (i := i) (k := j) h0
 rw [bI_sym hs (r := k) (i := k) (k := j) (by omega) hk hj] at h
 have hq : (det (k + 1) A : Rat) * (bI k A i j : Rat) - (bI k A i k : Rat) * (bI k A j k : Rat) = (det k A : Rat) * (bI (k + 1) A i j : Rat) := by exact_mod_cast h
 unfold xR dR lR
 have a := cast_ne h0
 have b := cast_ne h1
 grind
theorem quot_le {p q : Int} (hq : q ≠ 0) : ((p : Rat) / (q : Rat)).num.natAbs <= p.natAbs /\ ((p : Rat) / (q : Rat)).den <= q.natAbs := by
 rw [<- Rat.divInt_eq_div]
 obtain ⟨m, h0, h1, h2⟩ := Rat.divInt_num_den (n := p) (n' := (Rat.divInt p q).num) (d' := (Rat.divInt p q).den) (z' := (Rat.divInt p q).den_nz) (c := (Rat.divInt p q).reduced) hq rfl
 have hm : 1 <= m.natAbs := Int.natAbs_pos.2 h0
 constructor
 ·have : p.natAbs = (Rat.divInt p q).num.natAbs * m.natAbs := by rw [<- Int.natAbs_mul, <- h1]
  rw [this]
  exact Nat.le_mul_of_pos_right _ hm
 ·have : q.natAbs = (Rat.divInt p q).den * m.natAbs := by
   have e : q.natAbs = (((Rat.divInt p q).den : Int) * m).natAbs := by rw [<- h2]
   rw [e, Int.natAbs_mul, Int.natAbs_natCast]
  rw [this]
  exact Nat.le_mul_of_pos_right _ hm
end Go.Sh.Of

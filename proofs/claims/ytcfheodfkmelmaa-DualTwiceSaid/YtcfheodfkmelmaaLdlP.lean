/- L D L^T in plain Lean: the entries are quotients of minors. -/
import Derived.Test.YtcfheodfkmelmaaDetG
set_option linter.unusedVariables false
set_option linter.unusedSimpArgs false
namespace Go.Sh.Of
open Go
theorem cast_ne {z : Int} (h : z ≠ 0) : (z : Rat) ≠ 0 := by
 intro e
 exact h (by exact_mod_cast e)
theorem quot_le {p q : Int} (hq : q ≠ 0) : ((p : Rat) / (q : Rat)).num.natAbs <= p.natAbs /\ ((p : Rat) / (q : Rat)).den <= q.natAbs := by
 rw [<- Rat.divInt_eq_div]
 obtain ⟨m, h0, h1, h2⟩ := Rat.divInt_num_den (n := p) (n' := (Rat.divInt p q).num) (d' := (Rat.divInt p q).den) (z' := (Rat.divInt p q).den_nz) (c := (Rat.divInt p q).reduced) hq rfl
 have hm : 1 <= m.natAbs := Int.natAbs_pos.2 h0
 constructor
 ·have : p.natAbs = (Rat.divInt p q).num.natAbs * m.natAbs := by rw [<- Int.natAbs_mul, <- h1]
  rw [this]
  exact Nat.le_mul_of_pos_right _ hm
 ·have : q.natAbs = (Rat.divInt p q).den * m.natAbs := by
   have e : q.natAbs = (((Rat.divInt p q).den : Int) * m).natAbs := by rw [<- h2]
   rw [e, Int.natAbs_mul, Int.natAbs_natCast]
  rw [this]
  exact Nat.le_mul_of_pos_right _ hm
end Go.Sh.Of

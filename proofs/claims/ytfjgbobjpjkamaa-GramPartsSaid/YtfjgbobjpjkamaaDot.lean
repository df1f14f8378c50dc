/- Contracts of gram: dot, Dot, Norm. -/
import Derived.Test.YtfjgbobjpjkamaaChk
set_option linter.unusedVariables false
set_option linter.unusedSimpArgs false
namespace Go.Sh.Of
open Go Go.Sh
theorem Arr.loadP {H : Heap} {v : SV} {cs : List SV} (h : Arr H v cs) {i : Nat} {x : SV} (hx : cs[i]? = some x) (kd : IntKind) :
  ∃ p, (∀ k, slow.idx 1 v (.int kd i) k = k p) /\ (∀ k, slow.load 1 false p H k = k x) /\ ∀ H' t, Frame H H' -> slow.same p H H' t = t := by
 obtain ⟨s, rfl, h2, h3⟩ := h
 have hi : i < cs.length := (List.getElem?_eq_some_iff.1 hx).1
 rcases h3 with rfl | ⟨r, o, row, b1, b2, b3, b4⟩
 ·simp at hi
 ·have hc : 0 <= (i : Int) /\ (i : Int) < s.len := ⟨by omega, by rw [h2]; omega⟩
  refine ⟨.ptr (r, o + (i : Int).toNat * 1), fun k => ?_, fun k => ?_, fun H' t f => ?_⟩
  ·show (opP (.idx 1) [.slice s, .int kd i]).bind _ = _
   simp only [opP, if_pos hc, b1, Option.bind_some]
  ·show (opR (.load 1 false) [.ptr (r, o + (i : Int).toNat * 1)] H).bind k = _
   simp only [opR, Heap.read, b2, beq_ne b3, cond_false, Int.toNat_natCast, Nat.mul_one, cut_one (b4 i x hx), shaped, Option.bind_some]
  ·have e : H'.ver r = H.ver r := by unfold Heap.ver; rw [f.rows r (Heap.get_lt b2)]
   show (bif sameRow (.ptr (r, o + (i : Int).toNat * 1)) H H' then t else none) = t
   simp only [sameRow, rowOf, e, verEq_same, cond_true]
end Go.Sh.Of

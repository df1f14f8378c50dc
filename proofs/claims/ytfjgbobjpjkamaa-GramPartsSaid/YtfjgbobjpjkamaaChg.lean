/- Contracts of gram: Det, Change. -/
import Derived.Test.YtfjgbobjpjkamaaDot
set_option linter.unusedVariables false
set_option linter.unusedSimpArgs false
namespace Go.Sh.Of
open Go Go.Sh
theorem gdet_run (K d : Nat) (H : Heap) (a : SV) : runQ wk tab slow K (d + 21) 14 [a] H = f14 slow K (runQ wk tab slow K (d + 20)) a H := Eq.trans rfl rfl
theorem gdet_ok (K : Nat) (hK : 1000000 < K) (d : Nat) (H : Heap) {v : SV} {A : List (List Int)} (hv : IsInts2 H v A) :
  ∃ x H', runQ wk tab slow K (d + 21) 14 [v] H = some (.tuple [.agg [x], .int .i64 (chkE A)], H') /\ Frame H H' /\ IsNat H' (.agg [x]) (if chkE A = 0 then (det A.length (ent A)).natAbs else 0) := by
 rw [gdet_run]
 obtain ⟨H1, h1, f1⟩ := chk_ok K (by omega) (d + 11) H hv
 rw [show d + 11 + 9 = d + 20 from rfl] at h1
 by_cases e : chkE A = 0
 ·have b : ((0 : Int) != 0) = false := rfl
  have hs := (chk_form.1 e).sq
  rw [e] at h1
  obtain ⟨w, H2, h2, f2, m2⟩ := mof_w K hK d H1 (IsRowsC.fr hv f1) hs
  obtain ⟨x, y, H3, h3, f3, n3⟩ := sdet_w K hK d H2 m2 hs
  obtain ⟨z, h4, n4⟩ := zabs_ok K (d + 19) H3 n3
  have n4' := n4
  obtain ⟨z', rfl, _, _⟩ := n4
  refine ⟨z', H3, ?_, Frame.trans f1 (Frame.trans f2 f3), by rw [if_pos e]; exact n4'⟩
  rw [e]
  simp only [f14, h1, z_call, z_neq, b, z_cond, cond_false, h2, z_ext0, z_ext1, z_bst1, z_lload1, h3, z_bst2, z_lload2, h4, z_resc1]
 ·have b : (chkE A != 0) = true := by simp [e]
  have hz : ∀ k, slow.build [.slice nilSl] [] [] k = k (.agg [.slice nilSl]) := fun k => z_build0 k _
  refine ⟨.slice nilSl, H1, ?_, f1, by rw [if_neg e]; exact ⟨_, rfl, by rw [digs_zero]; exact Arr.nil H1, rfl⟩⟩
  simp only [f14, h1, z_call, z_neq, b, z_cond, cond_true, hz, z_bst1, z_resc1, z_rest_int]
end Go.Sh.Of

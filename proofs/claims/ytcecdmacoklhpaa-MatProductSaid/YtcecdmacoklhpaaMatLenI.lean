/- Contracts of the package mat: lengths of rows. -/
import Derived.Test.YtcecdmacoklhpaaMatA
set_option linter.unusedVariables false
set_option linter.unusedSimpArgs false
namespace Go.Sh.Of
open Go

theorem lengthsI_loop (C : CallC) (K : Nat) {H0 : Heap} {v : SV} {ws : List SV} (hv : Arr H0 v ws) (hws : ∀ w ∈ ws, isSlice w) (hl : ws.length < 100000000) : ∀ (m i fuel : Nat) (H : Heap) (o : SV), i + m = ws.length → m < fuel → Frame H0 H → Own H0.size H o ((ws.take i).map fun w => i64 (slen w)) →
    ∃ r H', slow.loop4 (f52_l1 slow K C) fuel v o (i64 ws.length) (i64 i) H = some (r, H') ∧ Frame H0 H' ∧ Arr H' r ((ws.map slen).map i64)
  | 0, i, fuel, H, o, him, hf, hfr, ho => by
    obtain ⟨fuel, rfl⟩ : ∃ m, fuel = m + 1 := ⟨fuel - 1, by omega⟩
    have hi : i = ws.length := by omega
    subst hi
    rw [List.take_length] at ho
    refine ⟨o, H, ?_, hfr, by rw [List.map_map]; exact ho.arr⟩
    rw [z_loop4]
    have hlt : ¬ ws.length < ws.length := Nat.lt_irrefl _
    simp only [f52_l1, n_lss, decide_eq_false hlt, z_cond, cond_false, z_rest ho.arr.good]
  | m + 1, i, fuel, H, o, him, hf, hfr, ho => by
    obtain ⟨fuel, rfl⟩ : ∃ m, fuel = m + 1 := ⟨fuel - 1, by omega⟩
    have hlt : i < ws.length := by omega
    obtain ⟨w, hw⟩ : ∃ w, ws[i]? = some w := ⟨_, List.getElem?_eq_getElem hlt⟩
    obtain ⟨o', H1, ha, ho1, f1, _⟩ := push1 ho hfr.size (.int .i64 0) (x := i64 (slen w)) rfl (by_ := 8) (roomy_small (by simp; omega))
    have e1 : ((ws.take i).map fun w => i64 (slen w)) ++ [i64 (slen w)] = (ws.take (i + 1)).map fun w => i64 (slen w) := by
      rw [List.take_add_one, hw]; simp
    rw [e1] at ho1
    obtain ⟨r, H2, h2, f2, a2⟩ := lengthsI_loop C K hv hws hl m (i + 1) fuel H1 o' (by omega) (by omega) (Fr.trans hfr f1) ho1
    refine ⟨r, H2, ?_, f2, a2⟩
    rw [z_loop4]
    simp only [f52_l1, n_lss, decide_eq_true hlt, z_cond, cond_true, (hv.fr hfr).load hw, len_slen (hws w (List.mem_of_getElem? hw)), ha]
    rw [show (SV.int .i64 1) = i64 1 from rfl, n_addi _ (by omega)]
    exact h2
theorem lengthsI_ok (K : Nat) (d : Nat) (H : Heap) {v : SV} {ws : List SV} (hv : Arr H v ws) (hws : ∀ w ∈ ws, isSlice w) (hl : ws.length < 100000000) (hK : ws.length < K) :
    ∃ r H', runQ wk tab slow K (d + 1) 52 [v] H = some (r, H') ∧ Frame H H' ∧ Arr H' r ((ws.map slen).map i64) := by
  show ∃ r H', f52 slow K (runQ wk tab slow K d) v H = _ ∧ _
  simp only [f52, hv.len]
  exact lengthsI_loop _ K hv hws hl ws.length 0 K H (.slice nilSl) (by omega) hK (Fr.refl _ _) (by simpa using Own.nil H.size H)
end Go.Sh.Of

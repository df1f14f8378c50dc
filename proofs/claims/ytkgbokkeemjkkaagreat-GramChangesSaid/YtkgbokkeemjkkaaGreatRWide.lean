/- Contract of the reference's Small: a whole number of the machine's. Contract of the reference's Wide. -/
import Derived.Test.YtkgbokkeemjkkaaGreatRef
import Derived.Test.YtkgbokkeemjkkaaGreatRSteps
set_option linter.unusedVariables false
set_option linter.unusedSimpArgs false
namespace Go.Sh.Of
open Go Go.Sh
variable {v : SV}
theorem rsm_all (K : Nat) (d : Nat) (H : Heap) {n : Nat} (hv : IsR H v n) (hl : (rdigs n).length < 1000000) (hK : 10 < K) :
  runQ wk tab slow K (d + 1) 95 [v] H = some (if n < 18446744073709551616 then .tuple [u64 n, .bool true] else .tuple [u64 0, .bool false], H) := by
 by_cases h : n < 18446744073709551616
 ·rw [if_pos h]
  exact rsm_ok K d H hv (rdigs_len64 h) hK
 ·have h4 : (rdigs n).length > 4 := Nat.lt_of_not_le fun hle => h (by
   have h1 := rdigs_lt n
   have h2 : D ^ (rdigs n).length <= D ^ 4 := Nat.pow_le_pow_right (by decide) hle
   have h3 : D ^ 4 = 18446744073709551616 := by decide
   omega)
  rw [if_neg h]
  show f95 slow K (runQ wk tab slow K d) v H = _
  simp only [f95, rlen hv]
  rw [show (SV.int .i64 4) = i64 4 from rfl, n_gtr, decide_eq_true h4, z_cond, cond_true]
  rfl
theorem rzsmallL (K : Nat) (hK : 10 < K) (d : Nat) (H : Heap) {z : Int} (hv : IsRZ H v z) (hl : (rdigs z.natAbs).length < 1000000) : ∃ n, runQ wk tab slow K (d + 2) 69 [v] H = some (.tuple [.int .i64 n, .bool (fits64 z)], H) /\ (fits64 z = true -> n = z) := by
 obtain ⟨s, rfl, hs⟩ := hv
 have hu := rsm_all K d H hs (by omega) hK
 show ∃ n, f69 slow K (runQ wk tab slow K (d + 1)) _ H = _ /\ _
 simp only [f69, z_bbox, z_lfld, z_lld1, hu, z_call]
 by_cases h1 : z.natAbs < 18446744073709551616
 ·rw [if_pos h1]
  simp only [z_ext0, z_ext1, z_not, Bool.not_true, z_cond, cond_false, z_lfld, z_lld0]
  rw [show (SV.int .u64 9223372036854775808) = u64 9223372036854775808 from rfl]
  by_cases hn : z < 0
  ·have e : fits64 z = decide (z.natAbs <= 9223372036854775808) := decide_eq_decide.2 (by omega)
   rw [decide_eq_true hn, cond_true]
   by_cases hb : z.natAbs <= 9223372036854775808
   ·refine ⟨-(z.natAbs : Int), ?_, fun _ => by omega⟩
    rw [u_neg64 (by omega) hb, n_leq, z_rest_int, z_rest_bool, e]
   ·have hneg : ∃ m, ∀ k, slow.u_neg (u64 z.natAbs) (fun x => slow.conv .i64 x k) = k (.int .i64 m) := ⟨_, fun k => by
     show (opP (.un .neg) [u64 z.natAbs]).bind (fun x => slow.conv .i64 x k) = _
     simp only [opP, unOp, wrapB, Option.bind_some]
     rw [z_conv]⟩
    obtain ⟨m, hm⟩ := hneg
    exact ⟨m, by rw [hm, n_leq, z_rest_int, z_rest_bool, e], fun h => by rw [e, decide_eq_false hb] at h; cases h⟩
  ·have e : fits64 z = decide (z.natAbs < 9223372036854775808) := decide_eq_decide.2 (by omega)
   rw [decide_eq_false hn, cond_false]
   refine ⟨IntKind.wrap .i64 (z.natAbs : Int), by simp only [z_conv, n_lss, z_rest_int, z_rest_bool, e], fun h => ?_⟩
   rw [e] at h
   have := of_decide_eq_true h
   rw [wrap_i64 (by omega) (by omega)]
   omega
 ·rw [if_neg h1]
  have e : fits64 z = false := decide_eq_false (by omega)
  rw [e]
  exact ⟨_, rfl, fun h => by cases h⟩
end Go.Sh.Of
namespace Go.Sh.Of
open Go
variable {H : Heap}
variable {zs : List Int}
variable {lo : Nat}
variable {va : SV}
variable {R : List (List Int)}
theorem IsRZs.load1 {v : SV} (h : IsRZs H v zs) {i : Nat} {z : Int} (hz : zs[i]? = some z) : ∃ y, (∀ k, slow.idx 2 v (i64 i) (fun p => slow.fld 1 p fun q => slow.load 1 false q H k) = k y) /\ IsR H y z.natAbs := by
 obtain ⟨els, h1, h2, h3⟩ := h
 obtain ⟨e, he⟩ : ∃ e, els[i]? = some e := ⟨_, List.getElem?_eq_getElem (by have := (List.getElem?_eq_some_iff.1 hz).1; omega)⟩
 obtain ⟨s, e1, h6⟩ := h3 i e z he hz
 cases e1
 exact ⟨_, fun k => ArrS.load1 h1 he k, h6⟩
theorem rwide_in (K : Nat) (hK : 100000 < K) (d : Nat) (hv : IsRRows lo H va R) {i : Nat} (hr : R[i]? = some zs) (hz : ∀ z ∈ zs, z.natAbs < 2 ^ 4096) (hl : zs.length <= 16) (hi : i < 1000) (k5 : SV -> SV -> SV -> Heap -> Rs) : ∀ (rest : List Int) (k fuel w : Nat), zs.drop k = rest -> rest.length < fuel ->
  slow.loop4 (f38_l3 slow K (runQ wk tab slow K (d + 2)) k5) fuel va (i64 w) (i64 i) (i64 k) H = k5 va (i64 (wRow w rest)) (i64 (i + 1)) H
 | [], k, fuel, w, hd, hf => by
  obtain ⟨fuel, rfl⟩ := suc hf
  have hlt : ¬ k < zs.length := by have := List.drop_eq_nil_iff.1 hd; omega
  obtain ⟨u, l1, hu⟩ := hv.load hr
  have l1' : ∀ k', slow.idx 1 va (i64 i) (fun p => slow.load 1 false p H k') = k' u := fun k' => l1 .i64 k'
  rw [z_loop4]
  simp only [f38_l3, l1', hu.len, n_lss, decide_eq_false hlt, z_cond, cond_false, w_inc (show i < 1000000 by omega)]
  rfl
 | z :: rest, k, fuel, w, hd, hf => by
  obtain ⟨fuel, rfl⟩ := suc hf
  have hlt : k < zs.length := Decidable.byContradiction fun h => by
   rw [List.drop_eq_nil_iff.2 (by omega)] at hd
   cases hd
  have hget : zs[k]? = some z := by
   have := List.getElem?_drop (xs := zs) (i := k) (j := 0)
   rw [hd] at this
   simpa using this.symm
  have hd' : zs.drop (k + 1) = rest := by
   rw [<- List.drop_drop, hd]
   rfl
  obtain ⟨u, l1, hu⟩ := hv.load hr
  have l1' : ∀ k', slow.idx 1 va (i64 i) (fun p => slow.load 1 false p H k') = k' u := fun k' => l1 .i64 k'
  obtain ⟨y, h1, h2⟩ := hu.load1 hget
  have hzz := rbig (hz z (List.mem_of_getElem? hget))
  have h4 := rbits_ok K hK (d + 1) H h2 (by omega)
  rw [show d + 1 + 1 = d + 2 from rfl] at h4
  rw [z_loop4]
  simp only [f38_l3, l1', hu.len, n_lss, decide_eq_true hlt, z_cond, cond_true, h1, h4, z_call, z_maxn, w_inc (show k < 1000000 by omega)]
  exact rwide_in K hK d hv hr hz hl hi k5 rest (k + 1) fuel (max w (bl z.natAbs)) hd' (by simp at hf; omega)
theorem rwide_out (K : Nat) (hK : 100000 < K) (d : Nat) (hv : IsRRows lo H va R) (hg : Good R) : ∀ (rest : List (List Int)) (i fuel w : Nat), R.drop i = rest -> rest.length < fuel -> wMat w rest = wMat 0 R -> wMat 0 R <= 4096 ->
  ∃ H', slow.loop3 (f38_l1 slow K (runQ wk tab slow K (d + 2))) fuel va (i64 w) (i64 i) H = some (.bool (wideB R), H') /\ Frame H H'
 | [], i, fuel, w, hd, hf, hw, hle => by
  obtain ⟨fuel, rfl⟩ := suc hf
  have hlt : ¬ i < R.length := by have := List.drop_eq_nil_iff.1 hd; omega
  have hr := hg.rows
  have hcc := hg.c16
  have hcol := rcols_ok K (d + 1) H hv
  rw [show d + 1 + 1 = d + 2 from rfl] at hcol
  have hw' : w = wMat 0 R := hw
  obtain ⟨n, hn⟩ : ∃ n, min R.length (colsOf R) = n := ⟨_, rfl⟩
  have hn16 : n <= 16 := by omega
  obtain ⟨o, H1, h1, f1, n1⟩ := rof_ok K (by omega) (d + 1) H (n := n) (by omega)
  rw [show d + 1 + 1 = d + 2 from rfl] at h1
  have hl := rbits_ok K hK (d + 1) H1 n1 (by have := rdigs_len64 (n := n) (by omega); omega)
  rw [show d + 1 + 1 = d + 2 from rfl] at hl
  have hbl : bl n <= 5 := bl_le.2 (by show n < 32; omega)
  have hm1 : 2 * n * (w + bl n) <= 32 * 5000 := Nat.mul_le_mul (by omega) (by omega)
  have e1 : ∀ k, slow.mul (.int .i64 2) (i64 n) k = k (i64 (2 * n)) := fun k => n_muli k (a := 2) (by omega)
  have e2 : ∀ k, slow.conv .u64 (i64 n) k = k (u64 n) := fun k => n_conv64 k .i64 n (by omega)
  have e3 : ∀ k, slow.add (i64 w) (i64 (bl n)) k = k (i64 (w + bl n)) := fun k => n_addi k (by omega)
  have e4 : ∀ k, slow.mul (i64 (2 * n)) (i64 (w + bl n)) k = k (i64 (2 * n * (w + bl n))) := fun k => n_muli k (by omega)
  have e5 : ∀ k, slow.gtr (i64 (2 * n * (w + bl n))) (.int .i64 4096) k = k (.bool (decide (2 * n * (w + bl n) > 4096))) := fun k => n_gtr k .i64 _ 4096
  refine ⟨H1, ?_, f1⟩
  rw [z_loop3]
  simp only [f38_l1, hv.len, n_lss, decide_eq_false hlt, z_cond, cond_false, hcol, z_call, z_minn, hn, e1, e2, h1, hl, e3, e4, e5, z_rest_bool]
  unfold wideB
  rw [hn, hw']
 | r :: rest, i, fuel, w, hd, hf, hw, hle => by
  obtain ⟨fuel, rfl⟩ := suc hf
  have hlt : i < R.length := Decidable.byContradiction fun h => by
   rw [List.drop_eq_nil_iff.2 (by omega)] at hd
   cases hd
  have hget : R[i]? = some r := by
   have := List.getElem?_drop (xs := R) (i := i) (j := 0)
   rw [hd] at this
   simpa using this.symm
  have hd' : R.drop (i + 1) = rest := by
   rw [<- List.drop_drop, hd]
   rfl
  have hrm := List.mem_of_getElem? hget
  have hr16 := hg.rows
  have hc16 := hg.c16
  have hrl := hg.rect r hrm
  obtain ⟨H', h1, f1⟩ := rwide_out K hK d hv hg rest (i + 1) fuel (wRow w r) hd' (by simp at hf; omega) hw hle
  refine ⟨H', ?_, f1⟩
  rw [z_loop3]
  simp only [f38_l1, hv.len, n_lss, decide_eq_true hlt, z_cond, cond_true]
  rw [show (SV.int .i64 0) = i64 0 from rfl, rwide_in K hK d hv hget (hg.big r hrm) (by omega) (by omega) _ r 0 K w rfl (by omega)]
  exact h1
theorem rwide_ok (K : Nat) (hK : 100000 < K) (d : Nat) (H : Heap) (hv : IsRRows lo H va R) (hg : Good R) :
  ∃ H', runQ wk tab slow K (d + 3) 38 [va] H = some (.bool (wideB R), H') /\ Frame H H' := by
 have hr16 := hg.rows
 show ∃ H', f38 slow K (runQ wk tab slow K (d + 2)) va H = _ /\ _
 exact rwide_out K hK d hv hg R 0 K 0 rfl (by omega) rfl (wMat_le R 0 (by omega) hg.big)
end Go.Sh.Of

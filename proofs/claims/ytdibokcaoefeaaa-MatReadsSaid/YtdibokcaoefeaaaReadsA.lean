/- Contracts: Uint64, Int64 of numbers and of matrices, the reference's Small, At, Text with rows of its own. -/
import Derived.Test.YtdibokcaoefeaaaReadL
set_option linter.unusedVariables false
set_option linter.unusedSimpArgs false
namespace Go.Sh.Of
open Go Go.Sh

/-! ### Uint64 -/
theorem nu64_ok (K : Nat) (d : Nat) (H : Heap) {v : SV} {n : Nat} (hv : IsNat H v n) (hb : (digs n).length < 1000000) :
    runQ wk tab slow K (d + 1) 82 [v] H = some (if n < 18446744073709551616 then .tuple [u64 n, .bool true] else .tuple [u64 0, .bool false], H) := by
  obtain ⟨sl, rfl, ha, _⟩ := hv
  have hval := val_digs n
  have hsm := digs_small n
  have hB : B = 4294967296 := rfl
  show f82 slow K (runQ wk tab slow K d) (.agg [sl]) H = _
  simp only [f82, z_bbox, z_lfld, z_lld0, blen ha, z_eql, z_cond]
  match hd : digs n with
  | [] =>
    rw [hd] at hval
    have h0 : n = 0 := hval.symm
    subst h0
    rfl
  | [a] =>
    rw [hd] at hval ha hsm
    have ha1 := hsm a (by simp)
    have hn : n = a := by rw [← hval]; simp [val]
    have hld : ∀ k, slow.idx 1 sl (.int .i64 0) (fun p => slow.load 1 false p H k) = k (u32 a) := fun k => ha.load (i := 0) rfl .i64 k
    subst hn
    rw [if_pos (by omega)]
    have e0 : ((([n] : List Nat).length : Nat) : Int) = 1 := rfl
    simp only [e0]
    have e1 : ((1 : Int) == 0) = false := rfl
    simp only [e1, cond_false, beq_self_eq_true, cond_true, hld]
    rw [n_conv64 _ .u32 n (by omega), z_rest_int]
  | [a, b] =>
    rw [hd] at hval ha hsm
    have ha1 := hsm a (by simp)
    have hb1 := hsm b (by simp)
    have hn : n = b * 4294967296 + a := by
      have e : val [a, b] = a + 4294967296 * (b + 4294967296 * 0) := rfl
      rw [← hval, e]; omega
    have hld0 : ∀ k, slow.idx 1 sl (.int .i64 0) (fun p => slow.load 1 false p H k) = k (u32 a) := fun k => ha.load (i := 0) rfl .i64 k
    have hld1 : ∀ k, slow.idx 1 sl (.int .i64 1) (fun p => slow.load 1 false p H k) = k (u32 b) := fun k => ha.load (i := 1) rfl .i64 k
    have hlt : n < 18446744073709551616 := by omega
    rw [if_pos hlt]
    have e0 : ((([a, b] : List Nat).length : Nat) : Int) = 2 := rfl
    simp only [e0]
    have e1 : ((2 : Int) == 0) = false := rfl
    have e2 : ((2 : Int) == 1) = false := rfl
    simp only [e1, e2, cond_false, beq_self_eq_true, cond_true, hld0, hld1]
    rw [n_conv64 _ .u32 b (by omega), show (SV.int .u64 32) = SV.int .u64 ((32 : Nat) : Int) from rfl, n_shl64 _ .u64 b 32 (by decide) (by omega), n_conv64 _ .u32 a (by omega), n_or64 _ (by omega) (by omega)]
    rw [show b * 2 ^ 32 ||| a = b * 4294967296 + a from or_add b a (by omega), ← hn, z_rest_int]
  | a :: b :: c :: rest =>
    have hge : ¬ n < 18446744073709551616 := fun h => by
      have := digs_len_le (n := n) (k := 2) h
      rw [hd] at this
      simp at this
    rw [if_neg hge]
    have e1 : ((((a :: b :: c :: rest : List Nat).length : Nat) : Int) == 0) = false := beq_eq_false_iff_ne.2 (by simp only [List.length_cons]; omega)
    have e2 : ((((a :: b :: c :: rest : List Nat).length : Nat) : Int) == 1) = false := beq_eq_false_iff_ne.2 (by simp only [List.length_cons]; omega)
    have e3 : ((((a :: b :: c :: rest : List Nat).length : Nat) : Int) == 2) = false := beq_eq_false_iff_ne.2 (by simp only [List.length_cons]; omega)
    simp only [e1, e2, e3, cond_false]
    rfl
/-- Is it a machine's number? -/
def fits64 (z : Int) : Bool := decide (-9223372036854775808 ≤ z ∧ z < 9223372036854775808)
theorem fits64_iff {z : Int} : fits64 z = true ↔ I64 z := by simp [fits64, I64]
theorem wrap_neg {n : Nat} (h0 : 0 < n) (h : n ≤ 9223372036854775808) : IntKind.wrap .i64 ((18446744073709551616 - n : Nat) : Int) = -(n : Int) := by
  have h1 : (((18446744073709551616 - n : Nat) : Int)) % ((2 : Int) ^ 64) = ((18446744073709551616 - n : Nat) : Int) := Int.emod_eq_of_lt (by omega) (by omega)
  show (if (true && decide ((((18446744073709551616 - n : Nat) : Int)) % ((2 : Int) ^ 64) ≥ 2 ^ (64 - 1))) = true then (((18446744073709551616 - n : Nat) : Int)) % ((2 : Int) ^ 64) - 2 ^ 64 else (((18446744073709551616 - n : Nat) : Int)) % ((2 : Int) ^ 64)) = _
  split
  · omega
  · rename_i hc
    exfalso
    apply hc
    show decide _ = true
    apply decide_eq_true
    show (((18446744073709551616 - n : Nat) : Int)) % ((2 : Int) ^ 64) ≥ 2 ^ (64 - 1)
    omega
theorem u_neg64 {n : Nat} (h0 : 0 < n) (h : n ≤ 9223372036854775808) (k : K1) : slow.u_neg (u64 n) (fun x => slow.conv .i64 x k) = k (.int .i64 (-(n : Int))) := by
  have e2 : IntKind.wrap .u64 (0 - (n : Int)) = ((18446744073709551616 - n : Nat) : Int) := by
    simp only [IntKind.wrap, IntKind.signed, IntKind.bits, Bool.false_and, Bool.false_eq_true, if_false]
    omega
  have e3 := wrap_neg h0 h
  show (opP (.un .neg) [u64 n]).bind (fun x => slow.conv .i64 x k) = _
  simp only [opP, unOp, wrapB, Option.bind_some]
  rw [e2, z_conv, e3]
theorem zi64_ok (K : Nat) (d : Nat) (H : Heap) {v : SV} {z : Int} (hv : IsInt H v z) (hz : z.natAbs < 2 ^ 4096) :
    runQ wk tab slow K (d + 2) 49 [v] H = some (if fits64 z then .tuple [.int .i64 z, .bool true] else .tuple [.int .i64 0, .bool false], H) := by
  obtain ⟨sl, rfl, ha, hf⟩ := hv
  have h2 := digs_len hz
  have hu := nu64_ok K d H (v := .agg [sl]) (n := z.natAbs) ⟨sl, rfl, ha, hf⟩ (by omega)
  have no : fits64 z = false → f49_j1 slow K (runQ wk tab slow K (d + 1)) (.box [.bool (decide (z < 0)), sl]) (u64 z.natAbs) (.bool true) H = some (if fits64 z then .tuple [.int .i64 z, .bool true] else .tuple [.int .i64 0, .bool false], H) := fun h => by
    rw [h]; rfl
  have yes : fits64 z = true → f49_j1 slow K (runQ wk tab slow K (d + 1)) (.box [.bool (decide (z < 0)), sl]) (u64 z.natAbs) (.bool false) H = some (if fits64 z then .tuple [.int .i64 z, .bool true] else .tuple [.int .i64 0, .bool false], H) := fun h => by
    have hi := fits64_iff.1 h
    unfold I64 at hi
    rw [h]
    simp only [f49_j1, z_cond, cond_false, z_lfld, z_lld0]
    by_cases hn : z < 0
    · rw [decide_eq_true hn, cond_true, u_neg64 (by omega) (by omega), z_rest_int, show -((z.natAbs : Nat) : Int) = z by omega]
      rfl
    · rw [decide_eq_false hn, cond_false, n_convi _ .u64 _ (by omega), z_rest_int, show ((z.natAbs : Nat) : Int) = z by omega]
      rfl
  show f49 slow K (runQ wk tab slow K (d + 1)) _ H = _
  simp only [f49, z_bbox, z_lfld, z_lldn, hu, z_call]
  by_cases h1 : z.natAbs < 18446744073709551616
  · rw [if_pos h1]
    simp only [z_ext0, z_ext1, z_not, Bool.not_true, z_guard, cond_false]
    rw [show (SV.int .u64 9223372036854775808) = u64 9223372036854775808 from rfl]
    simp only [n_gtr, n_eql, z_guard]
    by_cases h2 : z.natAbs > 9223372036854775808
    · rw [decide_eq_true h2, cond_true]
      exact no (decide_eq_false (by omega))
    · rw [decide_eq_false h2, cond_false]
      by_cases h3 : z.natAbs = 9223372036854775808
      · rw [decide_eq_true h3, cond_true]
        simp only [z_lfld, z_lld0, z_not]
        by_cases hn : z < 0
        · rw [decide_eq_true hn, Bool.not_true] at *
          exact yes (decide_eq_true (by omega))
        · rw [decide_eq_false hn, Bool.not_false] at *
          exact no (decide_eq_false (by omega))
      · rw [decide_eq_false h3, cond_false]
        exact yes (decide_eq_true (by omega))
  · rw [if_neg h1]
    simp only [z_ext0, z_ext1, z_not, Bool.not_false, z_guard, cond_true]
    have e : fits64 z = false := decide_eq_false (by omega)
    rw [e]
    rfl
/-! ### The reference's Small -/
theorem rsm_all (K : Nat) (d : Nat) (H : Heap) {v : SV} {n : Nat} (hv : IsR H v n) (hl : (rdigs n).length < 1000000) (hK : 10 < K) :
    runQ wk tab slow K (d + 1) 48 [v] H = some (if n < 18446744073709551616 then .tuple [u64 n, .bool true] else .tuple [u64 0, .bool false], H) := by
  by_cases h : n < 18446744073709551616
  · rw [if_pos h]
    exact rsm_ok K d H hv (rdigs_len64 h) hK
  · have h4 : (rdigs n).length > 4 := Nat.lt_of_not_le fun hle => h (by
      have h1 := rdigs_lt n
      have h2 : D ^ (rdigs n).length ≤ D ^ 4 := Nat.pow_le_pow_right (by decide) hle
      have h3 : D ^ 4 = 18446744073709551616 := by decide
      omega)
    rw [if_neg h]
    show f48 slow K (runQ wk tab slow K d) v H = _
    simp only [f48, rlen hv]
    rw [show (SV.int .i64 4) = i64 4 from rfl, n_gtr, decide_eq_true h4, z_cond, cond_true]
    rfl
theorem rzsm_ok (K : Nat) (hK : 10 < K) (d : Nat) (H : Heap) {v : SV} {z : Int} (hv : IsRZ H v z) (hz : z.natAbs < 2 ^ 4096) : ∃ n, runQ wk tab slow K (d + 2) 22 [v] H = some (.tuple [.int .i64 n, .bool (fits64 z)], H) := by
  obtain ⟨s, rfl, hs⟩ := hv
  have hl := rbig hz
  have hu := rsm_all K d H hs (by omega) hK
  show ∃ n, f22 slow K (runQ wk tab slow K (d + 1)) _ H = _
  simp only [f22, z_bbox, z_lfld, z_lld1, hu, z_call]
  by_cases h1 : z.natAbs < 18446744073709551616
  · rw [if_pos h1]
    simp only [z_ext0, z_ext1, z_not, Bool.not_true, z_cond, cond_false, z_lfld, z_lld0]
    rw [show (SV.int .u64 9223372036854775808) = u64 9223372036854775808 from rfl]
    by_cases hn : z < 0
    · have e : fits64 z = decide (z.natAbs ≤ 9223372036854775808) := decide_eq_decide.2 (by omega)
      rw [decide_eq_true hn, cond_true, e]
      have hneg : ∃ m, ∀ k, slow.u_neg (u64 z.natAbs) (fun x => slow.conv .i64 x k) = k (.int .i64 m) := ⟨_, fun k => by
        show (opP (.un .neg) [u64 z.natAbs]).bind (fun x => slow.conv .i64 x k) = _
        simp only [opP, unOp, wrapB, Option.bind_some]
        rw [z_conv]⟩
      obtain ⟨m, hm⟩ := hneg
      exact ⟨m, by rw [hm, n_leq, z_rest_int, z_rest_bool]⟩
    · have e : fits64 z = decide (z.natAbs < 9223372036854775808) := decide_eq_decide.2 (by omega)
      rw [decide_eq_false hn, cond_false, e]
      simp only [z_conv, n_lss, z_rest_int, z_rest_bool]
      exact ⟨_, rfl⟩
  · rw [if_neg h1]
    have e : fits64 z = false := decide_eq_false (by omega)
    rw [e]
    exact ⟨_, rfl⟩
/-! ### At -/
theorem mat_at (K : Nat) (d : Nat) (H : Heap) {v : SV} {A : List (List Int)} (hv : IsMat H v A) (hg : Good A) (i j : Int) :
    ∃ r, runQ wk tab slow K (d + 2) 26 [v, .int .i64 i, .int .i64 j] H = some (r, H) ∧ IsInt H r (if 0 ≤ i ∧ i < A.length ∧ 0 ≤ j ∧ j < colsOf A then ent A i.toNat j.toNat else 0) := by
  have hsz := msize_ok K d H hv
  obtain ⟨w, rfl, hr⟩ := hv
  show ∃ r, f26 slow K (runQ wk tab slow K (d + 1)) (.agg [w]) (.int .i64 i) (.int .i64 j) H = _ ∧ _
  have out : ¬ (0 ≤ i ∧ i < A.length ∧ 0 ≤ j ∧ j < colsOf A) → ∃ r, f26_j1 slow K (runQ wk tab slow K (d + 1)) (.int .i64 i) (.int .i64 j) (.box [w]) (.box [.bool false, .slice nilSl]) (.bool true) H = some (r, H) ∧ IsInt H r (if 0 ≤ i ∧ i < A.length ∧ 0 ≤ j ∧ j < colsOf A then ent A i.toNat j.toNat else 0) := fun h => by
    rw [if_neg h]
    exact ⟨_, rfl, IsInt.zero H⟩
  simp only [f26, z_bbox, z_lload1, hsz, z_call, z_ext0, z_ext1, z_lss, z_geq, z_guard]
  by_cases h1 : i < 0
  · rw [decide_eq_true h1, cond_true]
    exact out (by omega)
  · rw [decide_eq_false h1, cond_false]
    by_cases h2 : i ≥ A.length
    · rw [decide_eq_true h2, cond_true]
      exact out (by omega)
    · rw [decide_eq_false h2, cond_false]
      by_cases h3 : j < 0
      · rw [decide_eq_true h3, cond_true]
        exact out (by omega)
      · rw [decide_eq_false h3, cond_false]
        by_cases h4 : j ≥ colsOf A
        · rw [decide_eq_true h4]
          exact out (by omega)
        · rw [decide_eq_false h4, if_pos ⟨by omega, by omega, by omega, by omega⟩]
          obtain ⟨p, rfl⟩ : ∃ p : Nat, i = p := ⟨i.toNat, by omega⟩
          obtain ⟨q, rfl⟩ : ∃ q : Nat, j = q := ⟨j.toNat, by omega⟩
          obtain ⟨u, x, y, g1, g2, g3⟩ := hr.entry hg (i := p) (j := q) (by omega) (by omega)
          refine ⟨.agg [x, y], ?_, by simpa using g3⟩
          simp only [f26_j1, z_cond, cond_false, z_lfld, z_lld0, g1, g2, z_bst2, z_resc2]
/-! ### Int64 of a matrix -/
/-- Do all entries fit? -/
def allFit (A : List (List Int)) : Bool := A.all fun r => r.all fits64
theorem mi64_in (K : Nat) (hK : 1000 < K) (d : Nat) {H0 Hi : Heap} (h0i : Frame H0 Hi) {u : SV} {zs : List Int} (hu : IsZs H0 u zs) (hbig : ∀ z ∈ zs, z.natAbs < 2 ^ 4096) (hzl : zs.length ≤ 16) {lo : Nat} {out : SV} {ws : List SV} (ho : Own lo Hi out ws) (hlo : lo ≤ Hi.size) (hwl : ws.length ≤ 16) (hws : ∀ w ∈ ws, isSlice w) (y17 y18 : SV) (i : Nat) (hi : i < 1000) (k10 : SV → SV → SV → SV → Heap → Rs) : ∀ (m j fuel : Nat) (H : Heap) (t : SV), j + m = zs.length → m < fuel → Frame Hi H → Own Hi.size H t (intsL .i64 (zs.take j)) →
    ((zs.drop j).all fits64 = true ∧ ∃ out' H' t', slow.loop8 (f23_l3 slow K (runQ wk tab slow K (d + 2)) k10) fuel out t y17 y18 (i64 i) u (i64 zs.length) (i64 j) H = k10 out' y17 y18 (i64 (i + 1)) H' ∧ Fr lo Hi H' ∧ (∀ r, ¬ inRow out r → r < Hi.size → H'.get r = Hi.get r) ∧ Own lo H' out' (ws ++ [t']) ∧ Arr H' t' (intsL .i64 zs)) ∨
    ((zs.drop j).all fits64 = false ∧ ∃ H', slow.loop8 (f23_l3 slow K (runQ wk tab slow K (d + 2)) k10) fuel out t y17 y18 (i64 i) u (i64 zs.length) (i64 j) H = some (.tuple [.slice nilSl, .bool false], H') ∧ Frame Hi H')
  | 0, j, fuel, H, t, hjm, hf, hfr, ht => by
    obtain ⟨fuel, rfl⟩ : ∃ m, fuel = m + 1 := ⟨fuel - 1, by omega⟩
    have hj : j = zs.length := by omega
    subst hj
    rw [List.take_length] at ht
    obtain ⟨out', H2, ha, ho2, hf2, hrw⟩ := push1 (ho.fr hfr) (Nat.le_trans hlo hfr.size) (.slice nilSl) (x := t) ht.arr.flat (by_ := 24) (roomy_small (by omega))
    refine .inl ⟨by simp, out', H2, t, ?_, (hfr.mono hlo).trans hf2, fun r hn hlt => by rw [hrw r hn (Nat.lt_of_lt_of_le hlt hfr.size), hfr.rows r hlt], ho2, ?_⟩
    · rw [z_loop8]
      have hlt : ¬ zs.length < zs.length := Nat.lt_irrefl _
      simp only [f23_l3, n_lss, decide_eq_false hlt, z_cond, cond_false, ha]
      rw [show (SV.int .i64 1) = i64 1 from rfl, n_addi _ (by omega)]
    · exact Arr.keep ht.arr (fun c hc => by
        obtain ⟨s, _, rfl⟩ := List.mem_map.1 hc
        exact id) (X := fun r => inRow out r) (fun r rw hr hg c hc => by rw [Own.cells (ho.fr hfr) hr hg] at hc; exact hws c hc) hrw
  | m + 1, j, fuel, H, t, hjm, hf, hfr, ht => by
    obtain ⟨fuel, rfl⟩ : ∃ m, fuel = m + 1 := ⟨fuel - 1, by omega⟩
    have hlt : j < zs.length := by omega
    obtain ⟨z, hz⟩ : ∃ z, zs[j]? = some z := ⟨_, List.getElem?_eq_getElem hlt⟩
    have hd : zs.drop j = z :: zs.drop (j + 1) := List.drop_eq_getElem?_toList_append (l := zs) (i := j) ▸ by rw [hz]; rfl
    have huH := hu.fr (Frame.trans h0i hfr)
    obtain ⟨x, y, hld, hint⟩ := huH.load hz
    have h1 := zi64_ok K d H hint (hbig z (List.mem_of_getElem? hz))
    rw [z_loop8]
    simp only [f23_l3, n_lss, decide_eq_true hlt, z_cond, cond_true, hld, z_bst2, z_lload2, h1, z_call, hd, List.all_cons]
    cases hfit : fits64 z with
    | true =>
      obtain ⟨t', H2, ha, ht2, hf2, _⟩ := push1 ht hfr.size (.int .i64 0) (x := .int .i64 z) rfl (by_ := 8) (roomy_small (by simp; omega))
      have e1 : intsL .i64 (zs.take j) ++ [SV.int .i64 z] = intsL .i64 (zs.take (j + 1)) := by
        rw [List.take_add_one, hz]; simp [intsL]
      rw [e1] at ht2
      simp only [if_true, z_ext0, z_ext1, z_not, Bool.not_true, z_cond, cond_false, Bool.true_and, ha]
      rw [show (SV.int .i64 1) = i64 1 from rfl, n_addi _ (by omega)]
      exact mi64_in K hK d h0i hu hbig hzl ho hlo hwl hws y17 y18 i hi k10 m (j + 1) fuel H2 t' (by omega) (by omega) (Fr.trans hfr hf2) ht2
    | false =>
      refine .inr ⟨by simp, H, ?_, hfr⟩
      simp only [Bool.false_eq_true, if_false, z_ext0, z_ext1, z_not, Bool.not_false, z_cond, cond_true]
theorem mi64_out (K : Nat) (hK : 1000 < K) (d : Nat) {H0 : Heap} {v : SV} {A : List (List Int)} (hv : IsRows H0 v A) (hg : Good A) : ∀ (m i fuel : Nat) (H : Heap) (out : SV) (ws : List SV), i + m = A.length → m < fuel → Frame H0 H → Own H0.size H out ws → ws.length = i → (∀ w ∈ ws, isSlice w) → (∀ (q : Nat) (w : SV) (zs : List Int), ws[q]? = some w → A[q]? = some zs → Arr H w (intsL .i64 zs)) →
    ∃ r H', slow.loop4 (f23_l1 slow K (runQ wk tab slow K (d + 2))) fuel out v (i64 A.length) (i64 i) H = some (.tuple [r, .bool ((A.drop i).all fun r => r.all fits64)], H') ∧ Frame H0 H' ∧ (((A.drop i).all fun r => r.all fits64) = true → IsInts2 H' r A) ∧ (((A.drop i).all fun r => r.all fits64) = false → r = .slice nilSl)
  | 0, i, fuel, H, out, ws, him, hf, hfr, ho, hwl, hws, hdone => by
    obtain ⟨fuel, rfl⟩ : ∃ m, fuel = m + 1 := ⟨fuel - 1, by omega⟩
    have hi : i = A.length := by omega
    have hnil : A.drop i = [] := List.drop_of_length_le (by omega)
    rw [hnil]
    refine ⟨out, H, ?_, hfr, fun _ => ⟨ws, ho.arr, by simp [hwl, hi], fun q w cs hw hc => ?_⟩, fun h => by simp at h⟩
    · rw [z_loop4]
      have hlt : ¬ i < A.length := by omega
      simp only [f23_l1, n_lss, decide_eq_false hlt, z_cond, cond_false, z_rest ho.arr.good, List.all_nil]
    · rw [List.getElem?_map, Option.map_eq_some_iff] at hc
      obtain ⟨zs, hz, rfl⟩ := hc
      exact hdone q w zs hw hz
  | m + 1, i, fuel, H, out, ws, him, hf, hfr, ho, hwl, hws, hdone => by
    obtain ⟨fuel, rfl⟩ : ∃ m, fuel = m + 1 := ⟨fuel - 1, by omega⟩
    have hlt : i < A.length := by omega
    have hr16 := hg.rows
    have hc16 := hg.c16
    obtain ⟨zs, hz⟩ : ∃ zs, A[i]? = some zs := ⟨_, List.getElem?_eq_getElem hlt⟩
    have hm := List.mem_of_getElem? hz
    have hzl := hg.rect zs hm
    have hd : A.drop i = zs :: A.drop (i + 1) := List.drop_eq_getElem?_toList_append (l := A) (i := i) ▸ by rw [hz]; rfl
    obtain ⟨u, hld, hzs⟩ := (hv.fr hfr).load hz
    rw [z_loop4]
    simp only [f23_l1, n_lss, decide_eq_true hlt, z_cond, cond_true, hld, hzs.len, hd, List.all_cons]
    rw [show (SV.int .i64 0) = i64 0 from rfl]
    rcases mi64_in K hK d (H0 := H) (Hi := H) (Fr.refl _ _) hzs (hg.big zs hm) (by omega) ho hfr.size (by omega) hws v (i64 A.length) i (by omega) (slow.loop4 (f23_l1 slow K (runQ wk tab slow K (d + 2))) fuel) zs.length 0 K H (.slice nilSl) (by omega) (by omega) (Fr.refl _ _) (by simpa using Own.nil H.size H) with ⟨e1, out', H1, t', h1, f1, hrw1, ho1, ha1⟩ | ⟨e1, H1, h1, f1⟩
    · rw [List.drop_zero] at e1
      rw [h1, e1]
      simp only [Bool.true_and]
      have hs' : isSlice t' := Arr.isSlice ha1
      exact mi64_out K hK d hv hg m (i + 1) fuel H1 out' (ws ++ [t']) (by omega) (by omega) (Fr.trans hfr f1) ho1 (by simp [hwl]) (fun q hq => by
        rcases List.mem_append.1 hq with hq | hq
        · exact hws q hq
        · rw [List.mem_singleton.1 hq]; exact hs') (fun q w zs' hw hz' => by
          by_cases hq : q < ws.length
          · rw [List.getElem?_append_left hq] at hw
            exact Arr.keep (hdone q w zs' hw hz') (fun c hc => by
              obtain ⟨s, _, rfl⟩ := List.mem_map.1 hc
              exact id) (X := fun r => inRow out r) (fun r rw hr hg c hc => by rw [Own.cells ho hr hg] at hc; exact hws c hc) hrw1
          · have hq2 : q = ws.length := by have := (List.getElem?_eq_some_iff.1 hw).1; simp at this; omega
            subst hq2
            simp at hw
            subst hw
            rw [hwl, hz] at hz'
            cases hz'
            exact ha1)
    · rw [List.drop_zero] at e1
      rw [h1, e1]
      simp only [Bool.false_and]
      exact ⟨_, H1, rfl, Frame.trans hfr f1, (fun h => by cases h), fun _ => rfl⟩
theorem mi64_ok (K : Nat) (hK : 1000 < K) (d : Nat) (H : Heap) {v : SV} {A : List (List Int)} (hv : IsMat H v A) (hg : Good A) :
    ∃ r H', runQ wk tab slow K (d + 3) 23 [v] H = some (.tuple [r, .bool (allFit A)], H') ∧ Frame H H' ∧ (allFit A = true → IsInts2 H' r A) ∧ (allFit A = false → r = .slice nilSl) := by
  obtain ⟨w, rfl, hr⟩ := hv
  have hrows := hg.rows
  show ∃ r H', f23 slow K (runQ wk tab slow K (d + 2)) (.agg [w]) H = _ ∧ _
  simp only [f23, z_bbox, z_lfld, z_lld0, hr.len]
  exact mi64_out K hK d hr hg A.length 0 K H (.slice nilSl) [] (by omega) (by omega) (Fr.refl _ _) (Own.nil _ _) rfl (fun w hw => by cases hw) (fun q w zs hw => by simp at hw)
/-! ### Text, with rows of its own -/
theorem mtx_in (K : Nat) (hK : 100000 < K) (d : Nat) {H0 Hi : Heap} (h0i : Frame H0 Hi) {w : SV} {zs : List Int} (hw : IsZs H0 w zs) (hzl : zs.length ≤ 100) (hbig : ∀ z ∈ zs, z.natAbs < 2 ^ 4096) {lo : Nat} {out : SV} {ws : List SV} (ho : Own lo Hi out ws) (hlo : lo ≤ Hi.size) (hwl : ws.length < 100000) (y17 : SV) (n i : Nat) (hi : i < 100000) (k10 : SV → SV → SV → SV → Heap → Rs) : ∀ (m j fuel : Nat) (H : Heap) (t : SV), j + m = zs.length → m < fuel → Frame Hi H → Own Hi.size H t (strs ((zs.take j).map textZ)) →
    ∃ out' H' t', slow.loop8 (f25_l3 slow K (runQ wk tab slow K (d + 3)) k10) fuel out t y17 (i64 n) (i64 i) w (i64 zs.length) (i64 j) H = k10 out' y17 (i64 n) (i64 (i + 1)) H' ∧ Fr lo Hi H' ∧ (∀ r, ¬ inRow out r → r < Hi.size → H'.get r = Hi.get r) ∧ Own lo H' out' (ws ++ [t']) ∧ Own lo H' t' (strs (zs.map textZ))
  | 0, j, fuel, H, t, hjm, hf, hfr, ht => by
    obtain ⟨fuel, rfl⟩ : ∃ m, fuel = m + 1 := ⟨fuel - 1, by omega⟩
    have hj : j = zs.length := by omega
    subst hj
    rw [List.take_length] at ht
    obtain ⟨out', H2, ha, ho2, hf2, hrw⟩ := push1 (ho.fr hfr) (Nat.le_trans hlo hfr.size) (.slice nilSl) (x := t) ht.arr.flat (by_ := 24) (roomy_small (by omega))
    refine ⟨out', H2, t, ?_, (hfr.mono hlo).trans hf2, fun r hn hlt => by rw [hrw r hn (Nat.lt_of_lt_of_le hlt hfr.size), hfr.rows r hlt], ho2, ?_⟩
    · rw [z_loop8]
      have hlt : ¬ zs.length < zs.length := Nat.lt_irrefl _
      simp only [f25_l3, n_lss, decide_eq_false hlt, z_cond, cond_false, ha]
      rw [show (SV.int .i64 1) = i64 1 from rfl, n_addi _ (by omega)]
    · refine Own.mono (Own.of_rows ht fun r hr => hrw r (fun hx => ?_) (Own.lt ht hr)) hlo
      have := Own.geA ht hr
      have := Own.lt ho hx
      omega
  | m + 1, j, fuel, H, t, hjm, hf, hfr, ht => by
    obtain ⟨fuel, rfl⟩ : ∃ m, fuel = m + 1 := ⟨fuel - 1, by omega⟩
    have hlt : j < zs.length := by omega
    obtain ⟨z, hz⟩ : ∃ z, zs[j]? = some z := ⟨_, List.getElem?_eq_getElem hlt⟩
    have hwH := hw.fr (Frame.trans h0i hfr)
    obtain ⟨x, y, hld, hint⟩ := hwH.load hz
    obtain ⟨H1, h1, f1⟩ := ztext_ok K (by omega) d H hint (hbig z (List.mem_of_getElem? hz))
    obtain ⟨t', H2, ha, ht2, hf2, _⟩ := push1 (ht.fr f1) (Nat.le_trans hfr.size f1.size) (.str []) (x := .str (textZ z)) rfl (by_ := 16) (roomy_small (by simp; omega))
    have e1 : strs ((zs.take j).map textZ) ++ [SV.str (textZ z)] = strs ((zs.take (j + 1)).map textZ) := by
      rw [List.take_add_one, hz]; simp [strs]
    rw [e1] at ht2
    obtain ⟨out', H3, t'', h3, rest⟩ := mtx_in K hK d h0i hw hzl hbig ho hlo hwl y17 n i hi k10 m (j + 1) fuel H2 t' (by omega) (by omega) (Fr.trans (Frame.trans hfr f1) hf2) ht2
    refine ⟨out', H3, t'', ?_, rest⟩
    rw [z_loop8]
    simp only [f25_l3, n_lss, decide_eq_true hlt, z_cond, cond_true, hld, z_bst2, z_lload2, h1, z_call, ha]
    rw [show (SV.int .i64 1) = i64 1 from rfl, n_addi _ (by omega)]
    exact h3
theorem Own.apart {lo lo' : Nat} {H : Heap} {out w : SV} {ws : List SV} {l : List (List UInt8)} (ho : Own lo H out ws) (hws : ∀ w ∈ ws, isSlice w) (hw : Own lo' H w (strs l)) (hne : ws ≠ []) {r : Nat} (h1 : inRow out r) : ¬ inRow w r := fun h2 => by
  obtain ⟨row, hg⟩ : ∃ row, H.get r = some row := by
    obtain ⟨base, rfl, h⟩ := hw
    obtain ⟨s, o, e, h4⟩ := h2
    cases e
    rcases h with ⟨rfl, _⟩ | ⟨r', ver, rfl, _, h3⟩
    · cases h4
    · cases h4; exact ⟨_, h3⟩
  have e1 := Own.cells ho h1 hg
  have e2 := Own.cells hw h2 hg
  rw [e1] at e2
  cases ws with
  | nil => exact hne rfl
  | cons c ws =>
    have hc := hws c (by simp)
    have : c ∈ strs l := by rw [← e2]; simp
    obtain ⟨s, _, rfl⟩ := List.mem_map.1 this
    exact hc
theorem mtx_out (K : Nat) (hK : 100000 < K) (d : Nat) {H0 : Heap} {v : SV} {rows : List (List Int)} (hv : IsRows H0 v rows) (hbig : BigOk rows) (hrl : rows.length < 100000) : ∀ (m i fuel : Nat) (H : Heap) (out : SV) (ws : List SV), i + m = rows.length → m < fuel → Frame H0 H → Own H0.size H out ws → ws.length = i → (∀ w ∈ ws, isSlice w) → (∀ (q : Nat) (w : SV) (zs : List Int), ws[q]? = some w → rows[q]? = some zs → Own H0.size H w (strs (zs.map textZ))) →
    ∃ r H' ws', slow.loop4 (f25_l1 slow K (runQ wk tab slow K (d + 3))) fuel out v (i64 rows.length) (i64 i) H = some (r, H') ∧ Frame H0 H' ∧ Own H0.size H' r ws' ∧ ws'.length = rows.length ∧ (∀ w ∈ ws', isSlice w) ∧ ∀ (q : Nat) w zs, ws'[q]? = some w → rows[q]? = some zs → Own H0.size H' w (strs (zs.map textZ))
  | 0, i, fuel, H, out, ws, him, hf, hfr, ho, hwl, hws, hdone => by
    obtain ⟨fuel, rfl⟩ : ∃ m, fuel = m + 1 := ⟨fuel - 1, by omega⟩
    have hi : i = rows.length := by omega
    refine ⟨out, H, ws, ?_, hfr, ho, by omega, hws, hdone⟩
    rw [z_loop4]
    have hlt : ¬ i < rows.length := by omega
    simp only [f25_l1, n_lss, decide_eq_false hlt, z_cond, cond_false, z_rest ho.arr.good]
  | m + 1, i, fuel, H, out, ws, him, hf, hfr, ho, hwl, hws, hdone => by
    obtain ⟨fuel, rfl⟩ : ∃ m, fuel = m + 1 := ⟨fuel - 1, by omega⟩
    have hlt : i < rows.length := by omega
    obtain ⟨zs, hz⟩ : ∃ zs, rows[i]? = some zs := ⟨_, List.getElem?_eq_getElem hlt⟩
    obtain ⟨hb1, hb2⟩ := hbig zs (List.mem_of_getElem? hz)
    obtain ⟨w, hld, hzs⟩ := (hv.fr hfr).load hz
    obtain ⟨out', H1, t', h1, f1, hrw1, ho1, ha1⟩ := mtx_in K hK d (H0 := H) (Hi := H) (Fr.refl _ _) hzs hb1 hb2 ho hfr.size (by omega) v rows.length i (by omega) (slow.loop4 (f25_l1 slow K (runQ wk tab slow K (d + 3))) fuel) zs.length 0 K H (.slice nilSl) (by omega) (by omega) (Fr.refl _ _) (by simpa using Own.nil H.size H)
    have hs' : isSlice t' := Arr.isSlice ha1.arr
    obtain ⟨r, H2, ws', h2, rest⟩ := mtx_out K hK d hv hbig hrl m (i + 1) fuel H1 out' (ws ++ [t']) (by omega) (by omega) (Fr.trans hfr f1) ho1 (by simp [hwl]) (fun q hq => by
      rcases List.mem_append.1 hq with hq | hq
      · exact hws q hq
      · rw [List.mem_singleton.1 hq]; exact hs') (fun q u zs' hu hz' => by
        by_cases hq : q < ws.length
        · rw [List.getElem?_append_left hq] at hu
          have hod := hdone q u zs' hu hz'
          exact Own.of_rows hod fun r hr => hrw1 r (fun hx => Own.apart ho hws hod (fun e => by rw [e] at hq; simp at hq) hx hr) (Own.lt hod hr)
        · have hq2 : q = ws.length := by have := (List.getElem?_eq_some_iff.1 hu).1; simp at this; omega
          subst hq2
          simp at hu
          subst hu
          rw [hwl, hz] at hz'
          cases hz'
          exact ha1)
    refine ⟨r, H2, ws', ?_, rest⟩
    rw [z_loop4]
    simp only [f25_l1, n_lss, decide_eq_true hlt, z_cond, cond_true, hld, hzs.len]
    rw [show (SV.int .i64 0) = i64 0 from rfl, h1]
    exact h2
theorem mtx_ok (K : Nat) (hK : 100000 < K) (d : Nat) (H : Heap) {v : SV} {rows : List (List Int)} (hv : IsMat H v rows) (hbig : BigOk rows) (hrl : rows.length < 100000) :
    ∃ r H' ws', runQ wk tab slow K (d + 4) 25 [v] H = some (r, H') ∧ Frame H H' ∧ Own H.size H' r ws' ∧ ws'.length = rows.length ∧ (∀ w ∈ ws', isSlice w) ∧ ∀ (q : Nat) w zs, ws'[q]? = some w → rows[q]? = some zs → Own H.size H' w (strs (zs.map textZ)) := by
  obtain ⟨w, rfl, hr⟩ := hv
  show ∃ r H' ws', f25 slow K (runQ wk tab slow K (d + 3)) (.agg [w]) H = _ ∧ _
  simp only [f25, z_bbox, z_lfld, z_lld0, hr.len]
  exact mtx_out K hK d hr hbig hrl rows.length 0 K H (.slice nilSl) [] (by omega) (by omega) (Fr.refl _ _) (Own.nil _ _) rfl (fun w hw => by cases hw) (fun q w zs hw => by simp at hw)
end Go.Sh.Of

/- Contracts of the reference's Small and of its Dot (a product of two vectors under a form). -/
import Derived.Test.YtkgbokkeemjkkaaRChk
import Derived.Test.YtkgbokkeemjkkaaDot
set_option linter.unusedVariables false
set_option linter.unusedSimpArgs false
namespace Go.Sh.Of
open Go Go.Sh

theorem rsm_all (K : Nat) (d : Nat) (H : Heap) {v : SV} {n : Nat} (hv : IsR H v n) (hl : (rdigs n).length < 1000000) (hK : 10 < K) :
    runQ wk tab slow K (d + 1) 66 [v] H = some (if n < 18446744073709551616 then .tuple [u64 n, .bool true] else .tuple [u64 0, .bool false], H) := by
  by_cases h : n < 18446744073709551616
  · rw [if_pos h]
    exact rsm_ok K d H hv (rdigs_len64 h) hK
  · have h4 : (rdigs n).length > 4 := Nat.lt_of_not_le fun hle => h (by
      have h1 := rdigs_lt n
      have h2 : D ^ (rdigs n).length ≤ D ^ 4 := Nat.pow_le_pow_right (by decide) hle
      have h3 : D ^ 4 = 18446744073709551616 := by decide
      omega)
    rw [if_neg h]
    show f66 slow K (runQ wk tab slow K d) v H = _
    simp only [f66, rlen hv]
    rw [show (SV.int .i64 4) = i64 4 from rfl, n_gtr, decide_eq_true h4, z_cond, cond_true]
    rfl
/-- The reference's Small: the number itself, if it is one of the machine's. -/
theorem rzsmall_ok (K : Nat) (hK : 10 < K) (d : Nat) (H : Heap) {v : SV} {z : Int} (hv : IsRZ H v z) (hz : z.natAbs < 2 ^ 4096) : ∃ n, runQ wk tab slow K (d + 2) 29 [v] H = some (.tuple [.int .i64 n, .bool (fits64 z)], H) ∧ (fits64 z = true → n = z) := by
  obtain ⟨s, rfl, hs⟩ := hv
  have hl := rbig hz
  have hu := rsm_all K d H hs (by omega) hK
  show ∃ n, f29 slow K (runQ wk tab slow K (d + 1)) _ H = _ ∧ _
  simp only [f29, z_bbox, z_lfld, z_lld1, hu, z_call]
  by_cases h1 : z.natAbs < 18446744073709551616
  · rw [if_pos h1]
    simp only [z_ext0, z_ext1, z_not, Bool.not_true, z_cond, cond_false, z_lfld, z_lld0]
    rw [show (SV.int .u64 9223372036854775808) = u64 9223372036854775808 from rfl]
    by_cases hn : z < 0
    · have e : fits64 z = decide (z.natAbs ≤ 9223372036854775808) := decide_eq_decide.2 (by omega)
      rw [decide_eq_true hn, cond_true]
      by_cases hb : z.natAbs ≤ 9223372036854775808
      · refine ⟨-(z.natAbs : Int), ?_, fun _ => by omega⟩
        rw [u_neg64 (by omega) hb, n_leq, z_rest_int, z_rest_bool, e]
      · have hneg : ∃ m, ∀ k, slow.u_neg (u64 z.natAbs) (fun x => slow.conv .i64 x k) = k (.int .i64 m) := ⟨_, fun k => by
          show (opP (.un .neg) [u64 z.natAbs]).bind (fun x => slow.conv .i64 x k) = _
          simp only [opP, unOp, wrapB, Option.bind_some]
          rw [z_conv]⟩
        obtain ⟨m, hm⟩ := hneg
        exact ⟨m, by rw [hm, n_leq, z_rest_int, z_rest_bool, e], fun h => by rw [e, decide_eq_false hb] at h; cases h⟩
    · have e : fits64 z = decide (z.natAbs < 9223372036854775808) := decide_eq_decide.2 (by omega)
      rw [decide_eq_false hn, cond_false]
      refine ⟨IntKind.wrap .i64 (z.natAbs : Int), by simp only [z_conv, n_lss, z_rest_int, z_rest_bool, e], fun h => ?_⟩
      rw [e] at h
      have := of_decide_eq_true h
      rw [wrap_i64 (by omega) (by omega)]
      omega
  · rw [if_neg h1]
    have e : fits64 z = false := decide_eq_false (by omega)
    rw [e]
    exact ⟨_, rfl, fun h => by cases h⟩
theorem Arr.loadF {H : Heap} {v : SV} {cs : List SV} (h : Arr H v cs) {i : Nat} {x : SV} (hx : cs[i]? = some x) :
    ∃ p, (∀ k, slow.idx 1 v (i64 i) k = k p) ∧ (∀ H' k, Frame H H' → slow.load 1 false p H' k = k x) ∧ ∀ H' t, Frame H H' → slow.same p H H' t = t := by
  obtain ⟨p, h1, h2, h3⟩ := Arr.loadP h hx .i64
  refine ⟨p, h1, fun H' k f => ?_, h3⟩
  have := (h.fr f).load hx .i64 k
  rw [h1] at this
  exact this
theorem rdot_in (K : Nat) (hK : 3000000 < K) (d : Nat) {H0 : Heap} {v u w bx : SV} {A : List (List Int)} {x y : List Int} (hv : IsInts2 H0 v A) (hs : Sq A) (hu : Arr H0 u (intsL .i64 x)) (hw : Arr H0 w (intsL .i64 y)) (sx : ∀ z ∈ x, I64 z) (sy : ∀ z ∈ y, I64 z) (e1 : x.length = A.length) (e2 : y.length = A.length) (hX : ∀ i, i < A.length → (vecF x i).natAbs ≤ 9223372036854775808) (hY : ∀ i, i < A.length → (vecF y i).natAbs ≤ 9223372036854775808) (hA : ∀ i j, i < A.length → j < A.length → (ent A i j).natAbs ≤ 16384) {i : Nat} (hi : i < A.length) (k11 : SV → SV → SV → SV → SV → SV → Heap → Rs) : ∀ (m j fuel : Nat) (H : Heap) (b s : SV), j + m = A.length → m < fuel → Frame H0 H → IsRZ H (.agg [b, s]) (dotS A.length (ent A) (vecF x) (vecF y) i j) →
    ∃ b' s' H', slow.loop7 (f30_l3 slow K (runQ wk tab slow K (d + 3)) k11) fuel v u w bx (.box [b, s]) (i64 i) (i64 j) H = k11 v u w bx (.box [b', s']) (i64 (i + 1)) H' ∧ Frame H0 H' ∧ IsRZ H' (.agg [b', s']) (dotS A.length (ent A) (vecF x) (vecF y) (i + 1) 0)
  | 0, j, fuel, H, b, s, hjm, hf, hfr, hn => by
    obtain ⟨fuel, rfl⟩ : ∃ q, fuel = q + 1 := ⟨fuel - 1, by omega⟩
    have e : j = A.length := by omega
    subst e
    have h8 := hs.n8
    have hlt : ¬ A.length < A.length := Nat.lt_irrefl _
    rw [dotS_row] at hn
    refine ⟨b, s, H, ?_, hfr, hn⟩
    rw [z_loop7]
    simp only [f30_l3, ints_len (IsRowsC.fr hv hfr), n_lss, decide_eq_false hlt, z_cond, cond_false, w_inc (show i < 1000000 by omega)]
  | m + 1, j, fuel, H, b, s, hjm, hf, hfr, hn => by
    obtain ⟨fuel, rfl⟩ : ∃ q, fuel = q + 1 := ⟨fuel - 1, by omega⟩
    have hlt : j < A.length := by omega
    have h8 := hs.n8
    have hlj : ∀ k, slow.lss (i64 j) (i64 A.length) k = k (.bool true) := fun k => by rw [n_lss, decide_eq_true hlt]
    obtain ⟨r, a1, a2, a3, a4⟩ := hs.at hi hlt
    obtain ⟨zx, hzx⟩ : ∃ z, x[i]? = some z := ⟨_, List.getElem?_eq_getElem (by omega)⟩
    obtain ⟨zy, hzy⟩ : ∃ z, y[j]? = some z := ⟨_, List.getElem?_eq_getElem (by omega)⟩
    have ix := sx zx (List.mem_of_getElem? hzx)
    have iy := sy zy (List.mem_of_getElem? hzy)
    have hXi := hX i hi
    have hYj := hY j hlt
    have hAij := hA i j hi hlt
    rw [vecF_get hzx] at hXi
    rw [vecF_get hzy] at hYj
    have lx : ∀ k, slow.idx 1 u (i64 i) (fun p => slow.load 1 false p H k) = k (.int .i64 zx) := fun k => (hu.fr hfr).load (by simp [intsL, hzx]) .i64 k
    obtain ⟨py, q1, q2, q3⟩ := Arr.loadF (hw.fr hfr) (i := j) (x := .int .i64 zy) (by simp [intsL, hzy])
    obtain ⟨ox, H1, h1, f1, n1⟩ := rzof_ok K (by omega) (d + 1) H ix.1 ix.2
    rw [show d + 1 + 2 = d + 3 from rfl] at h1
    obtain ⟨oy, H2, h2, f2, n2⟩ := rzof_ok K (by omega) (d + 1) H1 iy.1 iy.2
    rw [show d + 1 + 2 = d + 3 from rfl] at h2
    have bx1 := rbig (small_pow (Nat.le_trans hXi (by decide)))
    have by1 := rbig (small_pow (Nat.le_trans hYj (by decide)))
    obtain ⟨pr, H3, h3, f3, n3⟩ := rzmul_ok K hK d H2 (n1.fr f2) n2 (by omega) (by omega)
    have bp : (zx * zy).natAbs ≤ 9223372036854775808 * 9223372036854775808 := by
      rw [Int.natAbs_mul]
      exact Nat.mul_le_mul hXi hYj
    have bp1 := rbig (small_pow (Nat.le_trans bp (by decide)))
    have F3 := Frame.trans hfr (Frame.trans f1 (Frame.trans f2 f3))
    obtain ⟨wr, l1, l2⟩ := ints_entry (IsRowsC.fr hv F3) a1 a2
    obtain ⟨oa, H4, h4, f4, n4⟩ := rzof_ok K (by omega) (d + 1) H3 (z := ent A i j) (by omega) (by omega)
    rw [show d + 1 + 2 = d + 3 from rfl] at h4
    have ba1 := rbig (small_pow (Nat.le_trans hAij (by decide)))
    obtain ⟨pr2, H5, h5, f5, n5⟩ := rzmul_ok K hK d H4 (n3.fr f4) n4 (by omega) (by omega)
    have bq : (zx * zy * ent A i j).natAbs ≤ 9223372036854775808 * 9223372036854775808 * 16384 := by
      rw [Int.natAbs_mul]
      exact Nat.mul_le_mul bp hAij
    have bq1 := rbig (small_pow (Nat.le_trans bq (by decide)))
    have bd := dotS_abs (n := A.length) (A := ent A) (X := vecF x) (Y := vecF y) hX hA hY (i := i) (j := j) (by omega) (by omega) (.inl hi)
    have bd1 := rbig (small_pow (Nat.le_trans bd (dot_bound h8 (by omega) (by omega))))
    have F35 := Frame.trans f1 (Frame.trans f2 (Frame.trans f3 (Frame.trans f4 f5)))
    obtain ⟨sm, H6, h6, f6, n6⟩ := rzadd_ok K hK d H5 (hn.fr F35) n5 (by omega) (by omega)
    have est : dotS A.length (ent A) (vecF x) (vecF y) i j + zx * zy * ent A i j = dotS A.length (ent A) (vecF x) (vecF y) i (j + 1) := by
      rw [dotS_step, vecF_get hzx, vecF_get hzy]
    rw [est] at n6
    obtain ⟨pb, rfl, _⟩ := n3
    have n6' := n6
    obtain ⟨sb, rfl, _⟩ := n6
    obtain ⟨b', s', H7, h7, g7⟩ := rdot_in K hK d (bx := bx) hv hs hu hw sx sy e1 e2 hX hY hA hi k11 m (j + 1) fuel H6 _ _ (by omega) (by omega) (Frame.trans hfr (Frame.trans F35 f6)) n6'
    refine ⟨b', s', H7, ?_, g7⟩
    rw [z_loop7]
    simp only [f30_l3, ints_len (IsRowsC.fr hv hfr), hlj, z_cond, cond_true, lx, h1, z_call, q1, q2 H1 _ f1, h2, h3, z_bst2, q3 H1 _ f1, z_lload2, l1, l2, h4, h5, h6, w_inc (show j < 1000000 by omega)]
    exact h7
theorem rdot_out (K : Nat) (hK : 3000000 < K) (d : Nat) {H0 : Heap} {v u w : SV} {A : List (List Int)} {x y : List Int} (hv : IsInts2 H0 v A) (hs : Sq A) (hu : Arr H0 u (intsL .i64 x)) (hw : Arr H0 w (intsL .i64 y)) (sx : ∀ z ∈ x, I64 z) (sy : ∀ z ∈ y, I64 z) (e1 : x.length = A.length) (e2 : y.length = A.length) (hX : ∀ i, i < A.length → (vecF x i).natAbs ≤ 9223372036854775808) (hY : ∀ i, i < A.length → (vecF y i).natAbs ≤ 9223372036854775808) (hA : ∀ i j, i < A.length → j < A.length → (ent A i j).natAbs ≤ 16384) : ∀ (m i fuel : Nat) (H : Heap) (b s : SV), i + m = A.length → m < fuel → Frame H0 H → IsRZ H (.agg [b, s]) (dotS A.length (ent A) (vecF x) (vecF y) i 0) →
    ∃ r H', slow.loop6 (f30_l1 slow K (runQ wk tab slow K (d + 3))) fuel v u w (.box [.bool false, .slice nilSl]) (.box [b, s]) (i64 i) H = some (r, H') ∧ Frame H0 H' ∧ IsRZ H' r (bilL A x y)
  | 0, i, fuel, H, b, s, him, hf, hfr, hn => by
    obtain ⟨fuel, rfl⟩ : ∃ q, fuel = q + 1 := ⟨fuel - 1, by omega⟩
    have e : i = A.length := by omega
    subst e
    have hlt : ¬ A.length < A.length := Nat.lt_irrefl _
    rw [dotS_end] at hn
    refine ⟨_, H, ?_, hfr, hn⟩
    rw [z_loop6]
    simp only [f30_l1, ints_len (IsRowsC.fr hv hfr), n_lss, decide_eq_false hlt, z_cond, cond_false, z_lload2, z_bst2, z_resc2]
  | m + 1, i, fuel, H, b, s, him, hf, hfr, hn => by
    obtain ⟨fuel, rfl⟩ : ∃ q, fuel = q + 1 := ⟨fuel - 1, by omega⟩
    have hlt : i < A.length := by omega
    have h8 := hs.n8
    obtain ⟨b1, s1, H1, h1, f1, n1⟩ := rdot_in K hK d (bx := .box [.bool false, .slice nilSl]) hv hs hu hw sx sy e1 e2 hX hY hA hlt (slow.loop6 (f30_l1 slow K (runQ wk tab slow K (d + 3))) fuel) A.length 0 K H b s (by omega) (by omega) hfr hn
    obtain ⟨r, H2, h2, g2⟩ := rdot_out K hK d hv hs hu hw sx sy e1 e2 hX hY hA m (i + 1) fuel H1 b1 s1 (by omega) (by omega) f1 n1
    refine ⟨r, H2, ?_, g2⟩
    rw [z_loop6]
    simp only [f30_l1, ints_len (IsRowsC.fr hv hfr), n_lss, decide_eq_true hlt, z_cond, cond_true]
    rw [show (SV.int .i64 0) = i64 0 from rfl, h1]
    exact h2
theorem rdot_run (K d : Nat) (H : Heap) (v u w : SV) : runQ wk tab slow K (d + 4) 30 [v, u, w] H = f30 slow K (runQ wk tab slow K (d + 3)) v u w H := Eq.trans rfl rfl
theorem bilL_small {A : List (List Int)} (hs : Sq A) {x y : List Int} (sx : ∀ z ∈ x, I64 z) (sy : ∀ z ∈ y, I64 z) (e1 : x.length = A.length) (e2 : y.length = A.length) : (∀ i, i < A.length → (vecF x i).natAbs ≤ 9223372036854775808) ∧ (∀ i, i < A.length → (vecF y i).natAbs ≤ 9223372036854775808) ∧ (∀ i j, i < A.length → j < A.length → (ent A i j).natAbs ≤ 16384) ∧ (bilL A x y).natAbs < 2 ^ 4096 := by
  have hX : ∀ i, i < A.length → (vecF x i).natAbs ≤ 9223372036854775808 := fun i hi => by
    obtain ⟨z, hz⟩ : ∃ z, x[i]? = some z := ⟨_, List.getElem?_eq_getElem (by omega)⟩
    rw [vecF_get hz]
    exact i64_abs (sx z (List.mem_of_getElem? hz))
  have hY : ∀ i, i < A.length → (vecF y i).natAbs ≤ 9223372036854775808 := fun i hi => by
    obtain ⟨z, hz⟩ : ∃ z, y[i]? = some z := ⟨_, List.getElem?_eq_getElem (by omega)⟩
    rw [vecF_get hz]
    exact i64_abs (sy z (List.mem_of_getElem? hz))
  have hA : ∀ i j, i < A.length → j < A.length → (ent A i j).natAbs ≤ 16384 := fun i j hi hj => by
    obtain ⟨r, _, _, a3, a4⟩ := hs.at hi hj
    omega
  refine ⟨hX, hY, hA, ?_⟩
  have bd := dotS_abs (n := A.length) (A := ent A) (X := vecF x) (Y := vecF y) hX hA hY (i := A.length) (j := 0) (by omega) (by omega) (.inr rfl)
  have h2 := small_pow (Nat.le_trans bd (dot_bound hs.n8 (Nat.le_refl _) (Nat.zero_le _)))
  rw [dotS_end] at h2
  exact h2
theorem rdot7_ok (K : Nat) (hK : 3000000 < K) (d : Nat) (H : Heap) {v u w : SV} {A : List (List Int)} {x y : List Int} (hv : IsInts2 H v A) (hs : Sq A) (hu : Arr H u (intsL .i64 x)) (hw : Arr H w (intsL .i64 y)) (sx : ∀ z ∈ x, I64 z) (sy : ∀ z ∈ y, I64 z) (e1 : x.length = A.length) (e2 : y.length = A.length) :
    ∃ r H', runQ wk tab slow K (d + 4) 30 [v, u, w] H = some (r, H') ∧ Frame H H' ∧ IsRZ H' r (bilL A x y) := by
  obtain ⟨hX, hY, hA, _⟩ := bilL_small hs sx sy e1 e2
  have h8 := hs.n8
  obtain ⟨o, H1, h1, f1, n1⟩ := rzof_ok K (by omega) (d + 1) H (z := 0) (by decide) (by decide)
  rw [show d + 1 + 2 = d + 3 from rfl] at h1
  have n1' := n1
  obtain ⟨ob, rfl, _⟩ := n1
  obtain ⟨r, H2, h2, g2⟩ := rdot_out K hK d hv hs hu hw sx sy e1 e2 hX hY hA A.length 0 K H1 _ _ (by omega) (by omega) f1 n1'
  refine ⟨r, H2, ?_, g2⟩
  rw [rdot_run]
  simp only [f30, h1, z_call, z_bst2]
  exact h2
end Go.Sh.Of


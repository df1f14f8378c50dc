/- GramNorms: the walk. -/
import Derived.Test.YtkgbokkeemjkkaaDot
set_option linter.unusedVariables false
set_option linter.unusedSimpArgs false
namespace Go.Sh.Of
open Go Go.Sh

theorem wrapI {z : Int} (h : I64 z) : IntKind.wrap .i64 z = z := wrap_i64 h.1 h.2
theorem addI {a b : Int} (h : I64 (a + b)) (k : K1) : slow.add (.int .i64 a) (.int .i64 b) k = k (.int .i64 (a + b)) := by rw [z_add, wrapI h]
theorem mulI {a b : Int} (h : I64 (a * b)) (k : K1) : slow.mul (.int .i64 a) (.int .i64 b) k = k (.int .i64 (a * b)) := by rw [z_mul, wrapI h]
/-- The size of a product of vectors. -/
theorem bilL_abs {A : List (List Int)} (hs : Sq A) {x y : List Int} {p r : Nat} (hx : ∀ i, i < A.length → (vecF x i).natAbs ≤ p) (hy : ∀ i, i < A.length → (vecF y i).natAbs ≤ r) : (bilL A x y).natAbs ≤ 64 * (p * (16384 * r)) := by
  have h8 := hs.n8
  have h := dotS_abs (n := A.length) (A := ent A) (X := vecF x) (Y := vecF y) (p := p) (q := 16384) (r := r) hx (fun i j hi hj => by
    obtain ⟨_, _, _, h⟩ := hs.at hi hj
    omega) hy (i := A.length) (j := 0) (Nat.le_refl _) (Nat.zero_le _) (.inr rfl)
  rw [dotS_end, Nat.zero_mul, Nat.add_zero] at h
  refine Nat.le_trans h ?_
  rw [← Nat.mul_assoc]
  exact Nat.mul_le_mul_right _ (Nat.mul_le_mul h8 h8)
theorem dot_fine {A : List (List Int)} (hc : chkE A = 0) {x y : List Int} (hx : x.length = A.length) (hy : y.length = A.length) (h : I64 (bilL A x y)) : gdotE A x y = 0 ∧ gdotN A x y = bilL A x y := by
  have e : gprE A x y = 0 := by
    unfold gprE
    rw [if_neg (fun n => n hx), if_neg (fun n => n hy), if_pos (fits64_iff.2 h)]
  unfold gdotE gdotN gprN
  rw [if_pos hc, if_pos hc, e, if_pos rfl]
  exact ⟨rfl, rfl⟩
def addL (x y : List Int) : List Int := List.zipWith (· + ·) x y
theorem addL_get {x y : List Int} {i : Nat} {a b : Int} (ha : x[i]? = some a) (hb : y[i]? = some b) : (addL x y)[i]? = some (a + b) := by
  unfold addL
  rw [List.getElem?_zipWith, ha, hb]
theorem addL_vec {x y : List Int} (h : x.length = y.length) (i : Nat) (hi : i < x.length) : vecF (addL x y) i = vecF x i + vecF y i := by
  obtain ⟨a, ha⟩ : ∃ a, x[i]? = some a := ⟨_, List.getElem?_eq_getElem hi⟩
  obtain ⟨b, hb⟩ : ∃ b, y[i]? = some b := ⟨_, List.getElem?_eq_getElem (by omega)⟩
  rw [vecF_get (addL_get ha hb), vecF_get ha, vecF_get hb]
theorem bil_sum {A : List (List Int)} (hy : Sym A.length (ent A)) {x y : List Int} (hx : x.length = A.length) (hyl : y.length = A.length) : bilL A (addL x y) (addL x y) = bilL A x x + bilL A y y + 2 * bilL A x y := by
  have e : bilL A (addL x y) (addL x y) = bil A.length (ent A) (fun i => 1 * vecF x i + vecF y i) (fun i => 1 * vecF x i + vecF y i) := bil_congr (fun _ _ _ _ => rfl) (fun i hi => by rw [addL_vec (by omega) i (by omega), Int.one_mul]) fun i hi => by rw [addL_vec (by omega) i (by omega), Int.one_mul]
  rw [e, bil_addl, bil_addr _ _ hy, bil_addr _ _ hy, bil_symm _ _ hy (vecF y) (vecF x)]
  unfold bilL
  omega
theorem nought_in {x : List Int} {n : Nat} (h : x.length = n) : (∀ i, i < n → vecF x i = 0) ↔ x.all (fun z => z == 0) = true := by
  rw [List.all_eq_true]
  constructor
  · intro h1 z hz
    obtain ⟨i, hi⟩ := List.getElem?_of_mem hz
    have := h1 i (by have := (List.getElem?_eq_some_iff.1 hi).1; omega)
    rw [vecF_get hi] at this
    simp [this]
  · intro h1 i hi
    obtain ⟨z, hz⟩ : ∃ z, x[i]? = some z := ⟨_, List.getElem?_eq_getElem (by omega)⟩
    rw [vecF_get hz]
    simpa using h1 z (List.mem_of_getElem? hz)
def Near (x : List Int) : Prop := ∀ z ∈ x, -1048576 ≤ z ∧ z ≤ 1048576
theorem near_vec {x : List Int} (h : Near x) {i : Nat} (hi : i < x.length) : -1048576 ≤ vecF x i ∧ vecF x i ≤ 1048576 := by
  obtain ⟨z, hz⟩ : ∃ z, x[i]? = some z := ⟨_, List.getElem?_eq_getElem hi⟩
  rw [vecF_get hz]
  exact h z (List.mem_of_getElem? hz)
theorem zabs_w (K : Nat) (d : Nat) (H : Heap) {z : Int} (h : I64 z) (hK : 1000000 < K) : ∃ r H' x, runQ wk tab slow K (d + 20) 18 [.int .i64 z] H = some (r, H') ∧ Frame H H' ∧ runQ wk tab slow K (d + 20) 19 [r] H' = some (x, H') ∧ IsNat H' x z.natAbs := by
  obtain ⟨r, H1, h1, f1, n1⟩ := zof_ok K (by omega) (d + 17) H h.1 h.2
  obtain ⟨x, h2, n2⟩ := zabs_ok K (d + 19) H1 n1
  exact ⟨r, H1, x, h1, f1, h2, n2⟩
theorem cmp_le {a b : Nat} (h : a ≤ b) : decide (cmpN a b ≤ 0) = true := by
  unfold cmpN
  apply decide_eq_true
  by_cases h1 : a < b
  · rw [if_pos h1]; decide
  · rw [if_neg h1, if_neg (by omega)]; decide
/-- What comes last: Cauchy and Schwarz. -/
theorem norms_j12 (K : Nat) (hK : 1000000 < K) (d : Nat) (H : Heap) {n m b : Int} (hn : I64 n) (hm : I64 m) (hb : I64 b) (h0 : 0 ≤ n) (h1 : 0 ≤ m) (hc : b * b ≤ n * m) :
    ∃ H', f4_j12 slow K (runQ wk tab slow K (d + 20)) (.int .i64 n) (.int .i64 m) (.int .i64 b) (.bool false) H = some (.bool true, H') := by
  obtain ⟨r1, H1, x1, a1, f1, c1, i1⟩ := zabs_w K d H hb hK
  obtain ⟨r2, H2, x2, a2, f2, c2, i2⟩ := zabs_w K d H1 hb hK
  have sb := i64_abs hb
  have sn := i64_abs hn
  have sm := i64_abs hm
  have big : ∀ {p : Nat}, p ≤ 9223372036854775808 → p < 2 ^ 4096 := fun h => small_pow (Nat.le_trans h (by decide))
  have big2 : ∀ {p q : Nat}, p ≤ 9223372036854775808 → q ≤ 9223372036854775808 → p * q < 2 ^ 4096 := fun h1 h2 => small_pow (Nat.le_trans (Nat.mul_le_mul h1 h2) (by decide))
  obtain ⟨o1, H3, a3, f3, i3⟩ := mul_nat_ok K (d + 16) H2 (i1.fr f2) i2 (by omega) (big sb) (big sb)
  rw [show d + 16 + 4 = d + 20 from rfl, if_pos (big2 sb sb)] at a3
  rw [if_pos (big2 sb sb)] at i3
  obtain ⟨r3, H4, x3, a4, f4, c4, i4⟩ := zabs_w K d H3 hn hK
  obtain ⟨r4, H5, x4, a5, f5, c5, i5⟩ := zabs_w K d H4 hm hK
  obtain ⟨o2, H6, a6, f6, i6⟩ := mul_nat_ok K (d + 16) H5 (i4.fr f5) i5 (by omega) (big sn) (big sm)
  rw [show d + 16 + 4 = d + 20 from rfl, if_pos (big2 sn sm)] at a6
  rw [if_pos (big2 sn sm)] at i6
  have i3' := i3.fr (Frame.trans f4 (Frame.trans f5 f6))
  have hle : b.natAbs * b.natAbs ≤ n.natAbs * m.natAbs := by
    have e1 : ((b.natAbs * b.natAbs : Nat) : Int) = b * b := by rw [Int.natCast_mul, ← Int.natAbs_mul_self' b]
    have e2 : ((n.natAbs * m.natAbs : Nat) : Int) = n * m := by rw [Int.natCast_mul, Int.natAbs_of_nonneg h0, Int.natAbs_of_nonneg h1]
    omega
  have hdl := dg_len (big2 sb sb)
  have c7 := cmp_ok K (d + 19) H6 i3' i6 (by omega) (by omega)
  have hcl := cmp_le hle
  obtain ⟨o1', e1, _⟩ := i3'
  obtain ⟨o2', e2, _⟩ := i6
  subst e1 e2
  refine ⟨H6, ?_⟩
  have z0 : ((0 : Int) == 0) = true := rfl
  simp only [f4_j12, z_cond, cond_false, a1, c1, a2, c2, z_call, a3, z_ext0, z_ext1, z_bst1, a4, c4, a5, c5, a6, z_eql, z0, z_guard, cond_true, z_lload1, c7, z_leq, hcl, f4_j14, z_rest_bool]
theorem norms_loop (K : Nat) (hK : 1000000 < K) (d : Nat) {H0 : Heap} {va vx vy : SV} {A : List (List Int)} {x y : List Int} (ha : IsInts2 H0 va A) (hx : Arr H0 vx (intsL .i64 x)) (hy : Arr H0 vy (intsL .i64 y)) (hc : chkE A = 0) (lx : x.length = A.length) (ly : y.length = A.length) : ∀ (m i fuel : Nat) (H : Heap) (t : SV), i + m = x.length → m < fuel → Frame H0 H → Own H0.size H t (intsL .i64 ((addL x y).take i)) → (∀ q z, q < i → x[q]? = some z → -1048576 ≤ z ∧ z ≤ 1048576) → (∀ q z, q < i → y[q]? = some z → -1048576 ≤ z ∧ z ≤ 1048576) →
    ∃ H', slow.loop7 (f4_l5 slow K (runQ wk tab slow K (d + 20))) fuel va vx vy t (.bool ((x.take i).all fun z => z == 0)) (i64 x.length) (i64 i) H = some (.bool true, H')
  | 0, i, fuel, H, t, him, hf, hfr, ho, nx, ny => by
    obtain ⟨fuel, rfl⟩ : ∃ q, fuel = q + 1 := ⟨fuel - 1, by omega⟩
    have hi : i = x.length := by omega
    subst hi
    have hlt : ¬ x.length < x.length := Nat.lt_irrefl _
    have hF := chk_form.1 hc
    have hs := hF.sq
    have h8 := hs.n8
    have wx : Near x := fun z hz => by
      obtain ⟨q, hq⟩ := List.getElem?_of_mem hz
      exact nx q z (List.getElem?_eq_some_iff.1 hq).1 hq
    have wy : Near y := fun z hz => by
      obtain ⟨q, hq⟩ := List.getElem?_of_mem hz
      exact ny q z (by have := (List.getElem?_eq_some_iff.1 hq).1; omega) hq
    have hsl : (addL x y).length = x.length := by simp [addL]; omega
    rw [show (addL x y).take x.length = addL x y by rw [← hsl, List.take_length]] at ho
    rw [List.take_length]
    have bx : ∀ i, i < A.length → (vecF x i).natAbs ≤ 1048576 := fun i hi => by have := near_vec wx (i := i) (by omega); omega
    have by' : ∀ i, i < A.length → (vecF y i).natAbs ≤ 1048576 := fun i hi => by have := near_vec wy (i := i) (by omega); omega
    have bs : ∀ i, i < A.length → (vecF (addL x y) i).natAbs ≤ 2097152 := fun i hi => by
      rw [addL_vec (by omega) i (by omega)]
      have := bx i hi
      have := by' i hi
      omega
    have ixx := bilL_abs hs bx bx
    have iyy := bilL_abs hs by' by'
    have ixy := bilL_abs hs bx by'
    have iss := bilL_abs hs bs bs
    have I1 : ∀ {z : Int}, z.natAbs ≤ 64 * (2097152 * (16384 * 2097152)) → I64 z := fun h => by unfold I64; omega
    have I0 : ∀ {z : Int}, z.natAbs ≤ 64 * (1048576 * (16384 * 1048576)) → I64 z := fun h => by unfold I64; omega
    have sym : bilL A y x = bilL A x y := bil_symm _ _ hF.sym _ _
    obtain ⟨e1, e2⟩ := dot_fine hc lx lx (I0 ixx)
    obtain ⟨e3, e4⟩ := dot_fine hc ly ly (I0 iyy)
    obtain ⟨e5, e6⟩ := dot_fine hc (x := addL x y) (y := addL x y) (by omega) (by omega) (I1 iss)
    obtain ⟨e7, e8⟩ := dot_fine hc lx ly (I0 ixy)
    obtain ⟨e9, e10⟩ := dot_fine hc ly lx (by rw [sym]; exact I0 ixy)
    have sx : ∀ z ∈ x, I64 z := fun z hz => by have := wx z hz; unfold I64; omega
    have sy : ∀ z ∈ y, I64 z := fun z hz => by have := wy z hz; unfold I64; omega
    have ss : ∀ z ∈ addL x y, I64 z := fun z hz => by
      obtain ⟨q, hq⟩ := List.getElem?_of_mem hz
      have hql := (List.getElem?_eq_some_iff.1 hq).1
      have h1 := bs q (by omega)
      rw [vecF_get hq] at h1
      unfold I64
      omega
    obtain ⟨H1, h1, f1⟩ := gnorm_ok K hK (d + 8) H (IsRowsC.fr ha hfr) (hx.fr hfr) sx
    have g1 := Frame.trans hfr f1
    obtain ⟨H2, h2, f2⟩ := gnorm_ok K hK (d + 8) H1 (IsRowsC.fr ha g1) (hy.fr g1) sy
    have g2 := Frame.trans g1 f2
    obtain ⟨H3, h3, f3⟩ := gnorm_ok K hK (d + 8) H2 (IsRowsC.fr ha g2) ((ho.arr.fr f1).fr f2) ss
    have g3 := Frame.trans g2 f3
    obtain ⟨H4, h4, f4⟩ := gdot_ok K hK (d + 9) H3 (IsRowsC.fr ha g3) (hx.fr g3) (hy.fr g3) sx sy
    have g4 := Frame.trans g3 f4
    obtain ⟨H5, h5, f5⟩ := gdot_ok K hK (d + 9) H4 (IsRowsC.fr ha g4) (hy.fr g4) (hx.fr g4) sy sx
    rw [show d + 8 + 12 = d + 20 from rfl] at h1 h2 h3
    rw [show d + 9 + 11 = d + 20 from rfl] at h4 h5
    rw [e1, e2] at h1
    rw [e3, e4] at h2
    rw [e5, e6] at h3
    rw [e7, e8] at h4
    rw [e9, e10, sym] at h5
    have hpd := hF.cor.pd hF.sym
    obtain ⟨p1, p2⟩ := hpd (vecF x)
    have q1 := (hpd (vecF y)).1
    have p1' : 0 ≤ bilL A x x := p1
    have q1' : 0 ≤ bilL A y y := q1
    have hbs := bil_sum hF.sym lx ly
    have hca : bilL A x y * bilL A x y ≤ bilL A x x * bilL A y y := cauchy _ _ hF.sym hF.cor _ _
    obtain ⟨H6, h6⟩ := norms_j12 K hK d H5 (I0 ixx) (I0 iyy) (I0 ixy) p1' q1' hca
    have iad : I64 (bilL A x x + bilL A y y) := by unfold I64; omega
    have imu : I64 (2 * bilL A x y) := by unfold I64; omega
    have iad2 : I64 (bilL A x x + bilL A y y + 2 * bilL A x y) := by rw [← hbs]; exact I1 iss
    have hno : (bilL A x x == 0) = (x.all fun z => z == 0) := by
      rw [Bool.eq_iff_iff, beq_iff_eq, ← nought_in lx]
      constructor
      · exact p2
      · intro h
        exact sumZ_zero fun i hi => sumZ_zero fun j hj => by rw [h i hi, Int.zero_mul]
    have bb : (bilL A (addL x y) (addL x y) != bilL A x x + bilL A y y + 2 * bilL A x y) = false := by rw [hbs]; simp
    have hlt0 : ¬ bilL A x x < 0 := by omega
    have hl0 : ∀ k, slow.lss (.int .i64 (bilL A x x)) (.int .i64 0) k = k (.bool false) := fun k => by rw [z_lss, decide_eq_false hlt0]
    refine ⟨H6, ?_⟩
    rw [z_loop7]
    simp only [f4_l5, n_lss, decide_eq_false hlt, z_cond, cond_false, h1, h2, h3, h4, h5, z_call, z_ext0, z_ext1, z_neq, bne_self_eq_false, z_guard, addI iad, mulI imu, addI iad2, bb, hl0, z_eql, hno, z_bneq, beq_self_eq_true, Bool.not_true]
    exact h6
  | m + 1, i, fuel, H, t, him, hf, hfr, ho, nx, ny => by
    obtain ⟨fuel, rfl⟩ : ∃ q, fuel = q + 1 := ⟨fuel - 1, by omega⟩
    have hlt : i < x.length := by omega
    have h8 := (chk_form.1 hc).sq.n8
    obtain ⟨a, ha'⟩ : ∃ a, x[i]? = some a := ⟨_, List.getElem?_eq_getElem hlt⟩
    obtain ⟨b, hb'⟩ : ∃ b, y[i]? = some b := ⟨_, List.getElem?_eq_getElem (by omega)⟩
    have l1 : ∀ H1, Frame H0 H1 → ∀ k, slow.idx 1 vx (i64 i) (fun p => slow.load 1 false p H1 k) = k (.int .i64 a) := fun H1 f k => (hx.fr f).load (by simp [intsL, ha']) .i64 k
    have l2 : ∀ H1, Frame H0 H1 → ∀ k, slow.idx 1 vy (i64 i) (fun p => slow.load 1 false p H1 k) = k (.int .i64 b) := fun H1 f k => (hy.fr f).load (by simp [intsL, hb']) .i64 k
    have stop : f4_j7 slow K (runQ wk tab slow K (d + 20)) (slow.loop7 (f4_l5 slow K (runQ wk tab slow K (d + 20))) fuel) va vx vy t (.bool ((x.take i).all fun z => z == 0)) (i64 i) (i64 x.length) (i64 i) (.bool true) H = some (.bool true, H) := rfl
    have la : ∀ k, slow.lss (.int .i64 a) (.int .i64 (-1048576)) k = k (.bool (decide (a < -1048576))) := fun k => z_lss _ _ _ k
    have lb : ∀ k, slow.lss (.int .i64 b) (.int .i64 (-1048576)) k = k (.bool (decide (b < -1048576))) := fun k => z_lss _ _ _ k
    rw [z_loop7]
    simp only [f4_l5, n_lss, decide_eq_true hlt, z_cond, cond_true, l1 H hfr, l2 H hfr, la, lb, z_gtr, z_guard]
    by_cases c1 : a < -1048576
    · rw [decide_eq_true c1, cond_true]
      exact ⟨H, stop⟩
    · rw [decide_eq_false c1, cond_false]
      by_cases c2 : a > 1048576
      · rw [decide_eq_true c2, cond_true]
        exact ⟨H, stop⟩
      · rw [decide_eq_false c2, cond_false]
        by_cases c3 : b < -1048576
        · rw [decide_eq_true c3, cond_true]
          exact ⟨H, stop⟩
        · rw [decide_eq_false c3, cond_false]
          by_cases c4 : b > 1048576
          · rw [decide_eq_true c4]
            exact ⟨H, stop⟩
          · rw [decide_eq_false c4]
            have iab : I64 (a + b) := by unfold I64; omega
            obtain ⟨t', H1, ht, ot, ft, _⟩ := push1 ho hfr.size (.int .i64 0) (x := .int .i64 (a + b)) rfl (by_ := 8) (roomy_small (by simp [intsL]; omega))
            have e1 : intsL .i64 ((addL x y).take i) ++ [SV.int .i64 (a + b)] = intsL .i64 ((addL x y).take (i + 1)) := by
              rw [List.take_add_one, addL_get ha' hb']; simp [intsL]
            rw [e1] at ot
            have g1 := Fr.trans hfr ft
            obtain ⟨H2, h2⟩ := norms_loop K hK d ha hx hy hc lx ly m (i + 1) fuel H1 t' (by omega) (by omega) g1 ot (fun q z hq hz => by
              by_cases e : q = i
              · subst e
                rw [ha'] at hz
                cases hz
                omega
              · exact nx q z (by omega) hz) (fun q z hq hz => by
              by_cases e : q = i
              · subst e
                rw [hb'] at hz
                cases hz
                omega
              · exact ny q z (by omega) hz)
            have e2 : ((x.take (i + 1)).all fun z => z == 0) = (((x.take i).all fun z => z == 0) && (a == 0)) := by
              rw [List.take_add_one, ha']
              simp
            rw [e2] at h2
            refine ⟨H2, ?_⟩
            simp only [f4_j7, z_cond, cond_false, l1 H hfr, l2 H hfr, addI iab, ht, z_guard]
            cases hb0 : (x.take i).all fun z => z == 0 with
            | true =>
              rw [hb0] at h2
              simp only [cond_true, l1 H1 g1, z_eql, f4_j9, w_inc (show i < 1000000 by omega)]
              exact h2
            | false =>
              rw [hb0] at h2
              simp only [cond_false, f4_j9, w_inc (show i < 1000000 by omega)]
              exact h2
theorem norms_ok (K : Nat) (hK : 1000000 < K) (d : Nat) (H : Heap) {v u w : SV} {A : List (List Int)} {x y : List Int} (hv : IsInts2 H v A) (_ : ∀ r ∈ A, ∀ z ∈ r, I64 z) (hu : Arr H u (intsL .i64 x)) (_ : ∀ z ∈ x, I64 z) (hw : Arr H w (intsL .i64 y)) (_ : ∀ z ∈ y, I64 z) :
    ∃ H', runQ wk tab slow K (d + 21) 4 [v, u, w] H = some (.bool true, H') := by
  have hw' : ∀ H, runQ wk tab slow K (d + 20) 9 [] H = some (.bool true, H) := fun H => rfl
  show ∃ H', f4 slow K (runQ wk tab slow K (d + 20)) v u w H = _
  obtain ⟨t, H1, h1, ho1, f1, _, _⟩ := z_lay2 (H := H) (lo := H.size) (Nat.le_refl _) (.slice nilSl) (.slice nilSl) hu.flat hw.flat
  obtain ⟨s, H2, h2, ho2, f2, _, _⟩ := z_lay2 (H := H1) (lo := H1.size) (Nat.le_refl _) (.slice nilSl) (.slice nilSl) (IsRowsC.flat hv) ho1.arr.flat
  have f12 := Frame.trans f1 f2
  have hv2 : IsInts2 H2 v A := IsRowsC.fr hv f12
  have hxy : IsInts2 H2 t [x, y] := IntsW.to (ws := [u, w]) ⟨ho1.arr.fr f2, rfl, fun i w' r hw1 hr => by
    match i with
    | 0 => simp at hw1 hr; subst hw1 hr; exact hu.fr f12
    | 1 => simp at hw1 hr; subst hw1 hr; exact hw.fr f12
    | n + 2 => simp at hw1⟩
  simp only [f4, hw', z_call, z_not, Bool.not_true, z_guard, cond_false, h1, h2]
  rcases beyond7_ok K (by omega) (d + 19) H2 (Ts := [A, [x, y]]) ho2.arr (by simp) rfl (fun i u' T' hu' hT => by
    match i with
    | 0 => simp at hu' hT; subst hu' hT; exact hv2
    | 1 => simp at hu' hT; subst hu' hT; exact hxy
    | n + 2 => simp at hu') with h3 | ⟨hfew, h3⟩
  · refine ⟨H2, ?_⟩
    simp only [h3, z_call, f4_j1, z_cond, cond_true, hw', z_rest_bool]
  · obtain ⟨H3, h4, f3⟩ := chk_ok K (by omega) (d + 11) H2 hv2
    rw [show d + 11 + 9 = d + 20 from rfl] at h4
    have f13 := Frame.trans f12 f3
    have lx : ∀ k, slow.len u k = k (i64 x.length) := fun k => by rw [(hu.fr f13).len]; simp [intsL]
    have ly : ∀ k, slow.len w k = k (i64 y.length) := fun k => by rw [(hw.fr f13).len]; simp [intsL]
    have hv3 : IsInts2 H3 v A := IsRowsC.fr hv2 f3
    have c4 : ∀ k, slow.neq (.int .i64 (chkE A)) (.int .i64 0) k = k (.bool (chkE A != 0)) := fun k => z_neq _ _ _ k
    simp only [h3, z_call, f4_j1, z_cond, cond_false, h4, c4, z_guard, lx, ly, ints_len hv3, n_neq]
    have stop : f4_j3 slow K (runQ wk tab slow K (d + 20)) v u w (.bool true) H3 = some (.bool true, H3) := rfl
    by_cases e0 : chkE A = 0
    · have b0 : (chkE A != 0) = false := by simp [e0]
      rw [b0, cond_false]
      by_cases e1 : x.length = A.length
      · have n1 : ¬ x.length ≠ A.length := fun h => h e1
        rw [decide_eq_false n1, cond_false]
        by_cases e2 : y.length = A.length
        · have n2 : ¬ y.length ≠ A.length := fun h => h e2
          rw [decide_eq_false n2]
          obtain ⟨H4, h5⟩ := norms_loop K hK d hv3 (hu.fr f13) (hw.fr f13) e0 e1 e2 x.length 0 K H3 (.slice nilSl) (by omega) (by have := (chk_form.1 e0).sq.n8; omega) (Fr.refl _ _) (Own.nil _ _) (fun q z hq => absurd hq (Nat.not_lt_zero q)) (fun q z hq => absurd hq (Nat.not_lt_zero q))
          refine ⟨H4, ?_⟩
          simp only [f4_j3, z_cond, cond_false, lx]
          exact h5
        · rw [decide_eq_true (show y.length ≠ A.length from e2)]
          exact ⟨H3, stop⟩
      · rw [decide_eq_true (show x.length ≠ A.length from e1), cond_true]
        exact ⟨H3, stop⟩
    · have b0 : (chkE A != 0) = true := by simp [e0]
      rw [b0, cond_true]
      exact ⟨H3, stop⟩
end Go.Sh.Of

/- GramParts: the walk. -/
import Derived.Test.YtfjgbobjpjkamaaLdlC
import Derived.Test.YtfjgbobjpjkamaaChg
set_option linter.unusedVariables false
set_option linter.unusedSimpArgs false
set_option exponentiation.threshold 20000
namespace Go.Sh.Of
open Go Go.Sh
def sumL (A : Mx) (i j : Nat) : Nat -> Rat
 | 0 => 0
 | k + 1 => sumL A i j k + lF A i k * dR A k * lF A j k
theorem lF_lt {A : Mx} {i k : Nat} (h : k < i) : lF A i k = lR A i k := by
 unfold lF
 rw [if_neg (by omega), if_pos h]
theorem lF_self (A : Mx) (i : Nat) : lF A i i = 1 := if_pos rfl
theorem lF_gt {A : Mx} {i j : Nat} (h : i < j) : lF A i j = 0 := by
 unfold lF
 rw [if_neg (by omega), if_neg (by omega)]
theorem sumL_low {A : List (List Int)} (hF : Form A) {i j : Nat} (hi : i < A.length) (hj : j < A.length) : ∀ {k : Nat}, k <= i -> k <= j -> sumL (ent A) i j k = (ent A i j : Rat) - xR (ent A) k i j
 | 0, _, _ => by
  rw [xR_zero]
  show (0 : Rat) = _
  grind
 | k + 1, h1, h2 => by
  show sumL (ent A) i j k + lF (ent A) i k * dR (ent A) k * lF (ent A) j k = _
  rw [sumL_low hF hi hj (by omega) (by omega), lF_lt (by omega), lF_lt (by omega), <- xR_next hF hi hj (show k < A.length by omega)]
  grind
theorem xR_sym {A : List (List Int)} (hF : Form A) {k i j : Nat} (hk : k < A.length) (hi : i < A.length) (hj : j < A.length) : xR (ent A) k i j = xR (ent A) k j i := by
 unfold xR
 rw [bI_sym hF.sym (by omega) hi hj]
theorem sumL_all {A : List (List Int)} (hF : Form A) {i j : Nat} (hi : i < A.length) (hj : j < A.length) : sumL (ent A) i j (min i j + 1) = (ent A i j : Rat) := by
 show sumL (ent A) i j (min i j) + _ = _
 rw [sumL_low hF hi hj (Nat.min_le_left _ _) (Nat.min_le_right _ _)]
 have key : lF (ent A) i (min i j) * dR (ent A) (min i j) * lF (ent A) j (min i j) = xR (ent A) (min i j) i j := by
  by_cases h : i = j
  ·subst h
   rw [Nat.min_self, lF_self, xR_pivot]
   grind
  ·by_cases g : i < j
   ·rw [Nat.min_eq_left (by omega), lF_self, lF_lt g, xR_sym hF hi hi hj, <- lR_dR hF hi]
    grind
   ·rw [Nat.min_eq_right (by omega), lF_self, lF_lt (by omega), lR_dR hF hj]
    grind
 rw [key]
 grind
theorem lF_qm {A : List (List Int)} (hF : Form A) {x y : Nat} (hx : x < A.length) (hy : y < A.length) : QM (lF (ent A) x y) := by
 unfold lF
 by_cases e : x = y
 ·rw [if_pos e]
  exact QM.int (z := 1) (by decide)
 ·rw [if_neg e]
  by_cases g : y < x
  ·rw [if_pos g]
   exact lR_qm hF hy hx
  ·rw [if_neg g]
   exact QM.int (z := 0) (by decide)
theorem lF_dR {A : List (List Int)} (hF : Form A) {i k : Nat} (hi : i < A.length) (hk : k <= i) : QM (lF (ent A) i k * dR (ent A) k) := by
 by_cases e : k = i
 ·subst e
  rw [lF_self, Rat.one_mul]
  exact dR_qm hF hi
 ·rw [lF_lt (by omega), lR_dR hF (show k < A.length by omega)]
  exact xR_qm hF (by omega) hi (by omega)
theorem sumL_qs {A : List (List Int)} (hF : Form A) {i j k : Nat} (hi : i < A.length) (hj : j < A.length) (h1 : k <= i) (h2 : k <= j) : QS (sumL (ent A) i j k) := by
 rw [sumL_low hF hi hj h1 h2]
 have h0 := hF.nz (k := k) (by omega)
 have e : (ent A i j : Rat) - xR (ent A) k i j = ((ent A i j * det k (ent A) - bI k (ent A) i j : Int) : Rat) / (det k (ent A) : Rat) := by
  unfold xR
  rw [Rat.intCast_sub, Rat.intCast_mul]
  have a := cast_ne h0
  grind
 have hl := quot_le (p := ent A i j * det k (ent A) - bI k (ent A) i j) h0
 rw [<- e] at hl
 have c1 := corner_le hF.sq (k := k) (by omega)
 have c2 := bI_le hF.sq (k := k) (i := i) (j := j) (by omega) hi hj
 obtain ⟨r, _, _, c3, c4⟩ := hF.sq.at hi hj
 have c5 : (ent A i j * det k (ent A)).natAbs <= 16384 * 2 ^ 136 := by
  rw [Int.natAbs_mul]
  exact Nat.mul_le_mul (by omega) c1
 have hb : 2 ^ 151 < 2 ^ 1500 := Nat.pow_lt_pow_right (by decide) (by decide)
 have e1 : 2 ^ 151 = 16384 * 2 ^ 136 + 16384 * 2 ^ 136 := by decide
 exact ⟨by omega, by omega⟩
theorem dR_pos {A : List (List Int)} (hF : Form A) {k : Nat} (hk : k < A.length) : 0 < (dR (ent A) k).num := by
 have a : 0 < det (k + 1) (ent A) := hF.cor _ (by omega) (by omega)
 have b : 0 < det k (ent A) := by
  by_cases h : k = 0
  ·subst h
   show (0 : Int) < 1
   decide
  ·exact hF.cor _ (by omega) (by omega)
 have c : 0 < dR (ent A) k := by
  unfold dR
  rw [Rat.div_def]
  exact Rat.mul_pos (Rat.intCast_pos.2 a) (Rat.inv_pos.2 (Rat.intCast_pos.2 b))
 have d := Rat.num_nonneg.2 (Rat.le_of_lt c)
 have e : (dR (ent A) k).num ≠ 0 := fun e => dR_ne hF hk (Rat.num_eq_zero.1 e)
 omega
theorem det_dR {A : List (List Int)} (hF : Form A) {k : Nat} (hk : k < A.length) : (det k (ent A) : Rat) * dR (ent A) k = (det (k + 1) (ent A) : Rat) := by
 unfold dR
 have a := cast_ne (hF.nz (k := k) (by omega))
 grind
theorem textQ_int (z : Int) : textQ (z : Rat) = textZ z := by
 unfold textQ
 rw [Rat.den_intCast, if_pos rfl, Rat.num_intCast]
theorem textQ_one : textQ 1 = [49] := by
 have : textQ ((1 : Int) : Rat) = [49] := by
  rw [textQ_int]
  unfold textZ dec
  rw [if_neg (by decide), if_neg (by decide), show (1 : Int).natAbs = 1 from rfl, decLE_pos (by decide), decLE_zero]
  rfl
 exact this
theorem Arr.loadF {H : Heap} {v : SV} {cs : List SV} (h : Arr H v cs) {i : Nat} {x : SV} (hx : cs[i]? = some x) :
  ∃ p, (∀ k, slow.idx 1 v (i64 i) k = k p) /\ (∀ H' k, Frame H H' -> slow.load 1 false p H' k = k x) /\ ∀ H' t, Frame H H' -> slow.same p H H' t = t := by
 obtain ⟨p, h1, h2, h3⟩ := Arr.loadP h hx .i64
 refine ⟨p, h1, fun H' k f => ?_, h3⟩
 have := (h.fr f).load hx .i64 k
 rw [h1] at this
 exact this
theorem parts_k (K : Nat) (hK : 1000000 < K) (d : Nat) {H0 : Heap} {av lv dv nv ab u1 u2 u3 : SV} {ws : List SV} {lo : Nat} {A : List (List Int)} (ha : IsInts2 H0 av A) (hF : Form A) (hS : LSt lo H0 lv dv ws (lF (ent A)) (dR (ent A)) A.length) {i j : Nat} (hi : i < A.length) (hj : j < A.length) (k64 : SV -> SV -> SV -> SV -> SV -> SV -> SV -> SV -> SV -> SV -> Heap -> Rs) : ∀ (m k fuel : Nat) (H : Heap) (b s e : SV), k + m = min i j + 1 -> m < fuel -> Frame H0 H -> IsQ H (.agg [b, s, e]) (sumL (ent A) i j k) ->
  ∃ H', slow.loop14 (f3_l15 slow K (runQ wk tab slow K (d + 21)) k64) fuel av lv dv nv ab (i64 i) (i64 j) (.box [b, s, e]) u1 u2 u3 (i64 j) (i64 (min i j + 1)) (i64 k) H = k64 av lv dv nv ab (i64 i) u1 u2 u3 (i64 (j + 1)) H' /\ Frame H0 H'
 | 0, k, fuel, H, b, s, e, hkm, hf, hfr, hx => by
  obtain ⟨fuel, rfl⟩ : ∃ q, fuel = q + 1 := ⟨fuel - 1, by omega⟩
  have h8 := hF.sq.n8
  have hlt : ¬ k < min i j + 1 := by omega
  have ek : k = min i j + 1 := by omega
  subst ek
  rw [sumL_all hF hi hj] at hx
  obtain ⟨r, a1, a2, a3, a4⟩ := hF.sq.at hi hj
  have qs : QS (ent A i j : Rat) := (QM.int (Nat.le_trans (show (ent A i j).natAbs <= 16384 by omega) (by decide))).qs
  obtain ⟨H1, h1, fr1⟩ := qtext_ok K (by omega) (d + 15) H hx qs
  rw [show d + 15 + 6 = d + 21 from rfl] at h1
  obtain ⟨wsA, w1, w2, w3⟩ := IntsW.of (IsRowsC.fr ha hfr)
  obtain ⟨w, hw⟩ : ∃ w, wsA[i]? = some w := ⟨_, List.getElem?_eq_getElem (by rw [w2]; exact hi)⟩
  obtain ⟨p, p1, p2, p3⟩ := Arr.loadF w1 hw
  obtain ⟨p', p4, p5, p6⟩ := Arr.loadF (w3 i w r hw a1) (i := j) (x := .int .i64 (ent A i j)) (by simp [intsL, a2])
  obtain ⟨z, H2, h2, fr2, iz⟩ := zof_ok K (by omega) (d + 18) H1 (z := ent A i j) (by omega) (by omega)
  rw [show d + 18 + 3 = d + 21 from rfl] at h2
  obtain ⟨x, h3, ix⟩ := qof_ok K (d + 20) H2 iz
  rw [show d + 20 + 1 = d + 21 from rfl] at h3
  obtain ⟨H3, h4, fr3⟩ := qtext_ok K (by omega) (d + 15) H2 ix qs
  rw [show d + 15 + 6 = d + 21 from rfl] at h4
  refine ⟨H3, ?_, Frame.trans hfr (Frame.trans fr1 (Frame.trans fr2 fr3))⟩
  rw [z_loop14]
  simp only [f3_l15, n_lss, decide_eq_false hlt, z_cond, cond_false, z_lload3, h1, z_call, p1, p2 _ _ fr1, p4, p5 _ _ fr1, h2, h3, h4, z_sneq, beq_self_eq_true, Bool.not_true, p3 _ _ fr1, p6 _ _ fr1, w_inc (show j < 1000000 by omega)]
 | m + 1, k, fuel, H, b, s, e, hkm, hf, hfr, hx => by
  obtain ⟨fuel, rfl⟩ : ∃ q, fuel = q + 1 := ⟨fuel - 1, by omega⟩
  have h8 := hF.sq.n8
  have hlt : k < min i j + 1 := by omega
  have hki : k <= i := by omega
  have hkj : k <= j := by omega
  have hkn : k < A.length := by omega
  have hS0 := hS.fr hfr
  obtain ⟨w1, e1, hw1, a1, a2, a3⟩ := hS0.l.load pcellQ hi hkn
  obtain ⟨g, g1, g2⟩ := hS0.d.load pcellQ hkn
  obtain ⟨p, H1, h1, fr1, ip⟩ := qmul_ok K (by omega) (d + 13) H a3 g2 (lF_qm hF hi hkn).qs (dR_qm hF hkn).qs
  rw [show d + 13 + 8 = d + 21 from rfl] at h1
  have hS1 := hS0.fr fr1
  obtain ⟨w2, e2, hw2, b1, b2, b3⟩ := hS1.l.load pcellQ hj hkn
  have qp := lF_dR hF hi hki
  obtain ⟨y, H2, h2, fr2, iy⟩ := qmul_ok K (by omega) (d + 13) H1 ip b3 qp.qs (lF_qm hF hj hkn).qs
  rw [show d + 13 + 8 = d + 21 from rfl] at h2
  obtain ⟨z, H3, h3, fr3, iz⟩ := qadd_ok K (by omega) (d + 13) H2 ((hx.fr fr1).fr fr2) iy (sumL_qs hF hi hj hki hkj) (QM.mul qp (lF_qm hF hj hkn))
  rw [show d + 13 + 8 = d + 21 from rfl] at h3
  obtain ⟨p1, p2, p3, rfl, _⟩ := id ip
  obtain ⟨y1, y2, y3, rfl, _⟩ := id iy
  obtain ⟨x1, x2, x3, rfl, _⟩ := id iz
  obtain ⟨H4, h4, fr4⟩ := parts_k K hK d ha hF hS hi hj k64 m (k + 1) fuel H3 x1 x2 x3 (by omega) (by omega) (Frame.trans hfr (Frame.trans fr1 (Frame.trans fr2 fr3))) iz
  refine ⟨H4, ?_, fr4⟩
  have b0 : ((0 : Int) != 0) = false := rfl
  rw [z_loop14]
  simp only [f3_l15, n_lss, decide_eq_true hlt, z_cond, cond_true, a1, a2, g1, h1, z_call, z_ext0, z_ext1, z_bst3, z_lload3, b1, b2, h2, h3, z_neq, b0, z_guard, cond_false, f3_j17, w_inc (show k < 1000000 by omega)]
  exact h4
theorem parts_j (K : Nat) (hK : 1000000 < K) (d : Nat) {H0 : Heap} {av lv dv ab u : SV} {ws : List SV} {lo : Nat} {A : List (List Int)} (ha : IsInts2 H0 av A) (hF : Form A) (hS : LSt lo H0 lv dv ws (lF (ent A)) (dR (ent A)) A.length) {i : Nat} (hi : i < A.length) (k34 : SV -> SV -> SV -> SV -> SV -> SV -> SV -> Heap -> Rs) : ∀ (m j fuel : Nat) (H : Heap), j + m = A.length -> m < fuel -> Frame H0 H ->
  ∃ H', slow.loop10 (f3_l11 slow K (runQ wk tab slow K (d + 21)) k34) fuel av lv dv (i64 A.length) ab (i64 i) u (i64 i) (i64 A.length) (i64 j) H = k34 av lv dv (i64 A.length) ab u (i64 (i + 1)) H' /\ Frame H0 H'
 | 0, j, fuel, H, hjm, hf, hfr => by
  obtain ⟨fuel, rfl⟩ : ∃ q, fuel = q + 1 := ⟨fuel - 1, by omega⟩
  have h8 := hF.sq.n8
  have hlt : ¬ j < A.length := by omega
  refine ⟨H, ?_, hfr⟩
  rw [z_loop10]
  simp only [f3_l11, n_lss, decide_eq_false hlt, z_cond, cond_false, w_inc (show i < 1000000 by omega)]
 | m + 1, j, fuel, H, hjm, hf, hfr => by
  obtain ⟨fuel, rfl⟩ : ∃ q, fuel = q + 1 := ⟨fuel - 1, by omega⟩
  have h8 := hF.sq.n8
  have hlt : j < A.length := by omega
  obtain ⟨H1, h1, fr1⟩ := parts_k K hK d (nv := i64 A.length) (ab := ab) (u1 := u) (u2 := i64 i) (u3 := i64 A.length) ha hF hS hi hlt (slow.loop10 (f3_l11 slow K (runQ wk tab slow K (d + 21)) k34) fuel) (min i j + 1) 0 K H _ _ _ (by omega) (by omega) hfr (IsQ.zero H)
  obtain ⟨H2, h2, fr2⟩ := parts_j K hK d (ab := ab) (u := u) ha hF hS hi k34 m (j + 1) fuel H1 (by omega) (by omega) fr1
  refine ⟨H2, ?_, fr2⟩
  have hm : min i j < 1000000 := by omega
  rw [z_loop10]
  by_cases hji : j > i
  ·obtain ⟨w1, e1, hw1, a1, a2, a3⟩ := (hS.fr hfr).l.load pcellQ hi hlt
   rw [lF_gt hji] at a3
   have hs := qsign_ok K (d + 17) H a3 (QM.int (z := 0) (by decide)).qs
   rw [show d + 17 + 4 = d + 21 from rfl, show signZ (0 : Rat).num = 0 from rfl] at hs
   have b0 : ((0 : Int) != 0) = false := rfl
   simp only [f3_l11, n_lss, decide_eq_true hlt, z_cond, cond_true, n_gtr, decide_eq_true hji, z_guard, a1, a2, hs, z_call, z_neq, b0, f3_j13, cond_false, z_build30, z_bst3, z_minn, w_inc hm]
   exact h1.trans h2
  ·simp only [f3_l11, n_lss, decide_eq_true hlt, z_cond, cond_true, n_gtr, decide_eq_false hji, z_guard, f3_j13, cond_false, z_build30, z_bst3, z_minn, w_inc hm]
   exact h1.trans h2
theorem textZ_pos {z : Int} (h : 0 <= z) : textZ z = dec z.natAbs := by
 unfold textZ
 rw [if_neg (by omega)]
theorem parts_i (K : Nat) (hK : 1000000 < K) (d : Nat) {H0 : Heap} {av lv dv : SV} {ws : List SV} {lo : Nat} {A : List (List Int)} (ha : IsInts2 H0 av A) (hF : Form A) (hS : LSt lo H0 lv dv ws (lF (ent A)) (dR (ent A)) A.length) : ∀ (m i fuel : Nat) (H : Heap) (b s e : SV), i + m = A.length -> m < fuel -> Frame H0 H -> IsQ H (.agg [b, s, e]) (det i (ent A) : Rat) ->
  ∃ H', slow.loop7 (f3_l6 slow K (runQ wk tab slow K (d + 21))) fuel av lv dv (i64 A.length) (.box [b, s, e]) (i64 A.length) (i64 i) H = some (.bool true, H')
 | 0, i, fuel, H, b, s, e, him, hf, hfr, hx => by
  obtain ⟨fuel, rfl⟩ : ∃ q, fuel = q + 1 := ⟨fuel - 1, by omega⟩
  have h8 := hF.sq.n8
  have hlt : ¬ i < A.length := by omega
  have ei : i = A.length := by omega
  subst ei
  obtain ⟨x, H1, h1, fr1, n1⟩ := gdet_ok K (by omega) d H (IsRowsC.fr ha hfr)
  have hE := chk_form.2 hF
  rw [hE] at h1
  rw [if_pos hE] at n1
  have hsm := sq_det_small hF.sq
  have hdl := dec_bits hsm
  have hdg := dg_len hsm
  have hpos : 0 < det A.length (ent A) := hF.cor _ hF.sq.n0 (Nat.le_refl _)
  obtain ⟨H2, h2, fr2⟩ := qtext_ok K (by omega) (d + 15) H1 (hx.fr fr1) (QM.int (corner_le hF.sq (Nat.le_refl _))).qs
  rw [show d + 15 + 6 = d + 21 from rfl, textQ_int, textZ_pos (by omega)] at h2
  obtain ⟨H3, h3, fr3⟩ := text_ok K (d + 19) H2 (n1.fr fr2) (by omega) (by omega) (by omega) (by omega) (by omega)
  rw [show d + 19 + 2 = d + 21 from rfl] at h3
  have h4 := bits_ok K (d + 19) H3 ((n1.fr fr2).fr fr3) (by omega)
  rw [show d + 19 + 2 = d + 21 from rfl] at h4
  have hbl : bl (det A.length (ent A)).natAbs > 0 := by
   unfold bl
   rw [if_neg (by omega)]
   omega
  have b1 : ∀ k, slow.gtr (i64 (bl (det A.length (ent A)).natAbs)) (.int .i64 0) k = k (.bool true) := fun k => by rw [show (SV.int .i64 0) = i64 0 from rfl, n_gtr, decide_eq_true hbl]
  refine ⟨H3, ?_⟩
  rw [z_loop7]
  simp only [f3_l6, n_lss, decide_eq_false hlt, z_cond, cond_false, h1, z_call, z_ext0, z_ext1, z_bst1, z_eql, beq_self_eq_true, z_guard, cond_true, z_lload3, h2, z_lload1, h3, z_seql, h4, b1, f3_j26, z_rest_bool]
 | m + 1, i, fuel, H, b, s, e, him, hf, hfr, hx => by
  obtain ⟨fuel, rfl⟩ : ∃ q, fuel = q + 1 := ⟨fuel - 1, by omega⟩
  have h8 := hF.sq.n8
  have hlt : i < A.length := by omega
  have hS0 := hS.fr hfr
  obtain ⟨w1, e1, hw1, a1, a2, a3⟩ := hS0.l.load pcellQ hlt hlt
  rw [lF_self] at a3
  have hl := (hS0.l.row i w1 hw1).len
  obtain ⟨H1, h1, fr1⟩ := qtext_ok K (by omega) (d + 15) H a3 (QM.int (z := 1) (by decide)).qs
  rw [show d + 15 + 6 = d + 21 from rfl, textQ_one] at h1
  obtain ⟨g, g1, g2⟩ := (hS0.fr fr1).d.load pcellQ hlt
  have hs := qsign_ok K (d + 17) H1 g2 (dR_qm hF hlt).qs
  have hdp := dR_pos hF hlt
  rw [show d + 17 + 4 = d + 21 from rfl, show signZ (dR (ent A) i).num = 1 by unfold signZ; rw [if_neg (by omega), if_neg (by omega)]] at hs
  obtain ⟨p, H2, h2, fr2, ip⟩ := qmul_ok K (by omega) (d + 13) H1 (hx.fr fr1) g2 (QM.int (corner_le hF.sq (show i <= A.length by omega))).qs (dR_qm hF hlt).qs
  rw [show d + 13 + 8 = d + 21 from rfl] at h2
  rw [det_dR hF hlt] at ip
  obtain ⟨p1, p2, p3, rfl, _⟩ := id ip
  obtain ⟨H3, h3, fr3⟩ := parts_j K hK d (H0 := H2) (ab := .box [p1, p2, p3]) (u := i64 A.length) (IsRowsC.fr ha (Frame.trans hfr (Frame.trans fr1 fr2))) hF ((hS0.fr fr1).fr fr2) hlt (slow.loop7 (f3_l6 slow K (runQ wk tab slow K (d + 21))) fuel) A.length 0 K H2 (by omega) (by omega) (Fr.refl _ _)
  obtain ⟨H4, h4⟩ := parts_i K hK d ha hF hS m (i + 1) fuel H3 p1 p2 p3 (by omega) (by omega) (Frame.trans hfr (Frame.trans fr1 (Frame.trans fr2 fr3))) (ip.fr fr3)
  refine ⟨H4, ?_⟩
  have b0 : ((0 : Int) != 0) = false := rfl
  have hl1 := hS0.l.out.arr.load hw1 .i64
  have c1 : decide ((1 : Int) <= 0) = false := rfl
  rw [z_loop7]
  simp only [f3_l6, n_lss, decide_eq_true hlt, z_cond, cond_true, hl1, hl, z_neq, bne_self_eq_false, z_guard, cond_false, a2, h1, z_call, z_sneq, beq_self_eq_true, Bool.not_true, g1, hs, z_leq, c1, f3_j8, z_lload3, h2, z_ext0, z_ext1, z_bst3, b0]
  exact h3.trans h4
theorem parts_run (K d : Nat) (H : Heap) (v : SV) : runQ wk tab slow K (d + 22) 3 [v] H = f3 slow K (runQ wk tab slow K (d + 21)) v H := Eq.trans rfl rfl
theorem parts_ok (K : Nat) (hK : 1000000 < K) (d : Nat) (H : Heap) {v : SV} {A : List (List Int)} (hv : IsInts2 H v A) (_ : ∀ r ∈ A, ∀ z ∈ r, I64 z) :
  ∃ H', runQ wk tab slow K (d + 22) 3 [v] H = some (.bool true, H') := by
 have hw : ∀ H, runQ wk tab slow K (d + 21) 4 [] H = some (.bool true, H) := fun H => rfl
 rw [parts_run]
 obtain ⟨u, H1, h1, ho, fr1, _, _⟩ := z_lay1 (H := H) (lo := H.size) (Nat.le_refl _) (.slice nilSl) (IsRowsC.flat hv)
 have hv1 : IsInts2 H1 v A := IsRowsC.fr hv fr1
 simp only [f3, hw, z_call, z_not, Bool.not_true, z_guard, cond_false, h1]
 rcases beyond7_ok K (by omega) (d + 20) H1 (Ts := [A]) ho.arr (by simp) rfl (fun i u T' hu hT => by
  match i with
  | 0 => simp at hu hT; subst hu hT; exact hv1
  | n + 1 => simp at hu) with h2 | ⟨hfew, h2⟩
 ·refine ⟨H1, ?_⟩
  simp only [h2, z_call, f3_j1, z_cond, cond_true, hw, z_rest_bool]
 ·by_cases hE : chkE A = 0
  ·have hF := chk_form.1 hE
   have h8 := hF.sq.n8
   obtain ⟨lv, dv, ws, H3, h4, fr3, S3⟩ := ldl_ok K (by omega) (d + 11) H1 hv1 hF
   rw [show d + 11 + 10 = d + 21 from rfl] at h4
   obtain ⟨o, H4, h5, fr4, io⟩ := zof_ok K (by omega) (d + 18) H3 (z := 1) (by decide) (by decide)
   rw [show d + 18 + 3 = d + 21 from rfl] at h5
   obtain ⟨x, h6, ix⟩ := qof_ok K (d + 20) H4 io
   rw [show d + 20 + 1 = d + 21 from rfl] at h6
   obtain ⟨x1, x2, x3, rfl, _⟩ := id ix
   have ha3 := IsRowsC.fr hv1 (Frame.trans fr3 fr4)
   obtain ⟨H5, h7⟩ := parts_i K hK d ha3 hF (S3.fr fr4) A.length 0 K H4 x1 x2 x3 (by omega) (by omega) (Fr.refl _ _) ix
   refine ⟨H5, ?_⟩
   have b0 : ((0 : Int) != 0) = false := rfl
   simp only [h2, z_call, f3_j1, z_cond, cond_false, h4, z_ext0, z_ext1, z_ext2, z_neq, b0, ints_len hv, S3.l.size, S3.d.len, bne_self_eq_false, z_guard, f3_j4, h5, h6, z_bst3]
   exact h7
  ·obtain ⟨H3, h4, fr3⟩ := ldl_no K (by omega) (d + 11) H1 hv1 hE
   rw [show d + 11 + 10 = d + 21 from rfl] at h4
   obtain ⟨H4, h5, fr4⟩ := chk_ok K (by omega) (d + 12) H3 (IsRowsC.fr hv1 fr3)
   rw [show d + 12 + 9 = d + 21 from rfl] at h5
   have b : (chkE A != 0) = true := by simp [hE]
   refine ⟨H4, ?_⟩
   simp only [h2, z_call, f3_j1, z_cond, cond_false, h4, z_ext0, z_ext1, z_ext2, z_neq, b, cond_true, h5, z_eql, beq_self_eq_true, z_rest_bool]
end Go.Sh.Of

/- Contracts of the package zint. -/
import Derived.Test.YtcecdmacoklhpaaNatA
set_option linter.unusedVariables false
set_option linter.unusedSimpArgs false
namespace Go.Sh.Of
open Go

section
variable (k : K1)
theorem z_build2 (b : Bool) (x : SV) : slow.build [.bool false, .slice nilSl] [(0, 1), (1, 1)] [.bool b, .agg [x]] k = k (.agg [.bool b, x]) := rfl
theorem z_build2a (x : SV) : slow.build [.bool false, .slice nilSl] [(1, 1)] [.agg [x]] k = k (.agg [.bool false, x]) := rfl
theorem z_bst2 (a b x y : SV) (k : KL) : slow.bstore 0 2 (.box [a, b]) (.agg [x, y]) k = k [x, y] := rfl
theorem z_resc2 (x y : SV) : slow.resc 2 true (.box [x, y]) k = k (.agg [x, y]) := rfl
theorem z_lload2 (x y : SV) : slow.lload 0 2 true (.box [x, y]) k = k (.agg [x, y]) := rfl
theorem z_lldn (x y : SV) : slow.lloadp 1 true (.box [x, y]) (.lptr 1) k = k (.agg [y]) := rfl
theorem z_sadd {a b : List UInt8} (h : a.length + b.length ≤ 4611686018427387904) : slow.add (.str a) (.str b) k = k (.str (a ++ b)) := by
  show (opP (.bin .add) [.str a, .str b]).bind k = _
  simp only [opP, binOp, strOp, Nat.ble_eq_true_of_le h, cond_true, Option.bind_some]
end
/-- A number, as the package zint holds it. -/
def IsInt (H : Heap) (v : SV) (z : Int) : Prop := ∃ sl, v = .agg [.bool (decide (z < 0)), sl] ∧ Arr H sl (limbs (digs z.natAbs)) ∧ sl.flat = true
theorem IsInt.fr {H H' : Heap} {v : SV} {z : Int} (h : IsInt H v z) (hf : Frame H H') : IsInt H' v z := by
  obtain ⟨sl, h1, h2, h3⟩ := h
  exact ⟨sl, h1, h2.fr hf, h3⟩
theorem IsInt.zero (H : Heap) : IsInt H (.agg [.bool false, .slice nilSl]) 0 := ⟨_, rfl, by show Arr H _ (limbs (digs 0)); rw [digs_zero]; exact Arr.nil H, rfl⟩
theorem natAbs_nat (n : Nat) : ((n : Nat) : Int).natAbs = n := rfl
def sgn (m : Bool) (n : Nat) : Int := if m then -(n : Int) else n
theorem sgn_abs (m : Bool) (n : Nat) : (sgn m n).natAbs = n := by unfold sgn; split <;> omega
theorem sgn_neg (m : Bool) (n : Nat) : decide (sgn m n < 0) = (m && decide (n > 0)) := by
  unfold sgn
  cases m <;> simp <;> omega
theorem sgn_self (z : Int) : sgn (decide (z < 0)) z.natAbs = z := by
  unfold sgn
  by_cases h : z < 0 <;> simp [h] <;> omega
/-- Make. -/
theorem zmake_ok (K : Nat) (d : Nat) (H : Heap) {v : SV} {n : Nat} (m : Bool) (hv : IsNat H v n) (hb : (digs n).length < 10000000) :
    ∃ r, runQ wk tab slow K (d + 3) 36 [.bool m, v] H = some (r, H) ∧ IsInt H r (sgn m n) := by
  have hbits := bits_ok K d H hv hb
  obtain ⟨sl, rfl, ha, hf⟩ := hv
  show ∃ r, f36 slow K (runQ wk tab slow K (d + 2)) (.bool m) (.agg [sl]) H = _ ∧ _
  cases m with
  | false =>
    refine ⟨.agg [.bool false, sl], ?_, sl, ?_, ?_, hf⟩
    · simp only [f36, z_bbox, z_guard, cond_false, z_lload1, z_build2, z_bst2, f36_j1, z_resc2]
    · rw [sgn_neg]; rfl
    · rw [sgn_abs]; exact ha
  | true =>
    refine ⟨.agg [.bool (decide (n > 0)), sl], ?_, sl, ?_, ?_, hf⟩
    · have e : decide ((bl n : Int) > 0) = decide (n > 0) := decide_eq_decide.2 (by
        unfold bl
        split <;> omega)
      simp only [f36, z_bbox, z_guard, cond_true, z_lload1, hbits, z_call, z_gtr, e, z_build2, z_bst2, f36_j1, z_resc2]
    · rw [sgn_neg]; rfl
    · rw [sgn_abs]; exact ha
/-- Of. -/
theorem zof_ok (K : Nat) (hK : 2 < K) (d : Nat) (H : Heap) {z : Int} (h0 : -9223372036854775808 ≤ z) (h1 : z < 9223372036854775808) :
    ∃ r H', runQ wk tab slow K (d + 3) 43 [.int .i64 z] H = some (r, H') ∧ Frame H H' ∧ IsInt H' r z := by
  show ∃ r H', f43 slow K (runQ wk tab slow K (d + 2)) (.int .i64 z) H = _ ∧ _
  by_cases h : z < 0
  · have e1 : IntKind.wrap .u64 z = ((18446744073709551616 - z.natAbs : Nat) : Int) := by
      simp only [IntKind.wrap, IntKind.signed, IntKind.bits, Bool.false_and, Bool.false_eq_true, if_false]
      omega
    have e2 : IntKind.wrap .u64 (0 - ((18446744073709551616 - z.natAbs : Nat) : Int)) = ((z.natAbs : Nat) : Int) := by
      simp only [IntKind.wrap, IntKind.signed, IntKind.bits, Bool.false_and, Bool.false_eq_true, if_false]
      omega
    have e3 : ∀ k, slow.u_neg (u64 (18446744073709551616 - z.natAbs)) k = k (u64 z.natAbs) := fun k => by
      show (opP (.un .neg) [u64 (18446744073709551616 - z.natAbs)]).bind k = _
      simp only [opP, unOp, wrapB, Option.bind_some]
      rw [e2]
    obtain ⟨r, H1, h2, f1, sl, rfl, h3, h4⟩ := of_ok K hK d H (n := z.natAbs) (by omega)
    refine ⟨.agg [.bool true, sl], H1, ?_, f1, sl, by simp [h], h3, h4⟩
    simp only [f43, z_lss, decide_eq_true h, z_cond, cond_true, z_conv]
    rw [e1, e3, h2]
    simp only [z_call, z_build2, z_bst2, z_resc2]
  · obtain ⟨n, rfl⟩ : ∃ n : Nat, z = n := ⟨z.toNat, by omega⟩
    obtain ⟨r, H1, h2, f1, sl, rfl, h3, h4⟩ := of_ok K hK d H (n := n) (by omega)
    refine ⟨.agg [.bool false, sl], H1, ?_, f1, sl, by simp [h], h3, h4⟩
    simp only [f43, z_lss, decide_eq_false h, z_cond, cond_false]
    rw [n_conv64 _ .i64 n (by omega), h2]
    simp only [z_call, z_build2a, z_bst2, z_resc2]
/-- A whole number's text. -/
def textZ (z : Int) : List UInt8 := if z < 0 then 45 :: dec z.natAbs else dec z.natAbs
theorem dec_len (n : Nat) : (dec n).length ≤ (decLE n).length + 1 := by unfold dec; split <;> simp
theorem dec_bits {n : Nat} (h : n < 2 ^ 4096) : (decLE n).length ≤ 4096 := decLE_len (Nat.lt_of_lt_of_le h (two_ten 4096))
theorem ztext_ok (K : Nat) (hK : 10000 < K) (d : Nat) (H : Heap) {v : SV} {z : Int} (hv : IsInt H v z) (hz : z.natAbs < 2 ^ 4096) :
    ∃ H', runQ wk tab slow K (d + 3) 21 [v] H = some (.str (textZ z), H') ∧ Frame H H' := by
  obtain ⟨sl, rfl, ha, hf⟩ := hv
  have h1 := dec_bits hz
  have h2 := digs_len hz
  obtain ⟨H1, h3, f1⟩ := text_ok K d H (v := .agg [sl]) (n := z.natAbs) ⟨sl, rfl, ha, hf⟩ (by omega) (by omega) (by omega) (by omega) (by omega)
  show ∃ H', f21 slow K (runQ wk tab slow K (d + 2)) _ H = _ ∧ _
  refine ⟨H1, ?_, f1⟩
  simp only [f21, z_bbox, z_lfld, z_lld0, z_cond, z_lldn, h3, z_call, z_rest_str]
  by_cases h : z < 0
  · have h5 := dec_len z.natAbs
    rw [decide_eq_true h, cond_true, z_sadd _ (by simp; omega), z_rest_str]
    simp [textZ, h]
  · rw [decide_eq_false h, cond_false]
    simp [textZ, h]
/-- Neg. -/
theorem zneg_ok (K : Nat) (d : Nat) (H : Heap) {v : SV} {z : Int} (hv : IsInt H v z) (hz : z.natAbs < 2 ^ 4096) :
    ∃ r, runQ wk tab slow K (d + 4) 13 [v] H = some (r, H) ∧ IsInt H r (-z) := by
  obtain ⟨sl, rfl, ha, hf⟩ := hv
  have h2 := digs_len hz
  obtain ⟨r, h3, sl2, rfl, h5, h6⟩ := zmake_ok K d H (v := .agg [sl]) (n := z.natAbs) (!decide (z < 0)) ⟨sl, rfl, ha, hf⟩ (by omega)
  have e : sgn (!decide (z < 0)) z.natAbs = -z := by
    unfold sgn
    by_cases h : z < 0 <;> simp [h] <;> omega
  rw [e] at h5 h3
  show ∃ r, f13 slow K (runQ wk tab slow K (d + 3)) _ H = _ ∧ _
  refine ⟨_, ?_, sl2, rfl, h5, h6⟩
  simp only [f13, z_bbox, z_lfld, z_lld0, z_not, z_lldn, h3, z_call, z_bst2, z_resc2]
/-- Abs. -/
theorem zabs_ok (K : Nat) (d : Nat) (H : Heap) {v : SV} {z : Int} (hv : IsInt H v z) :
    ∃ r, runQ wk tab slow K (d + 1) 24 [v] H = some (r, H) ∧ IsNat H r z.natAbs := by
  obtain ⟨sl, rfl, ha, hf⟩ := hv
  show ∃ r, f24 slow K (runQ wk tab slow K d) _ H = _ ∧ _
  refine ⟨.agg [sl], ?_, sl, rfl, ha, hf⟩
  simp only [f24, z_bbox, z_lfld, z_lldn, z_bst1, z_resc1]
/-- Sign. -/
def signZ (z : Int) : Int := if z = 0 then 0 else if z < 0 then -1 else 1
theorem zsign_ok (K : Nat) (d : Nat) (H : Heap) {v : SV} {z : Int} (hv : IsInt H v z) (hz : z.natAbs < 2 ^ 4096) :
    runQ wk tab slow K (d + 3) 16 [v] H = some (.int .i64 (signZ z), H) := by
  obtain ⟨sl, rfl, ha, hf⟩ := hv
  have h2 := digs_len hz
  have hb := bits_ok K d H (v := .agg [sl]) (n := z.natAbs) ⟨sl, rfl, ha, hf⟩ (by omega)
  show f16 slow K (runQ wk tab slow K (d + 2)) _ H = _
  simp only [f16, z_bbox, z_lfld, z_lldn, z_lld0, hb, z_call, z_eql, z_cond]
  have e : ((bl z.natAbs : Int) == 0) = decide (z = 0) := by
    rw [Bool.eq_iff_iff, beq_iff_eq, decide_eq_true_eq]
    unfold bl
    split <;> omega
  rw [e]
  unfold signZ
  by_cases h0 : z = 0
  · simp [h0]
  · by_cases h1 : z < 0 <;> simp [h0, h1]
/-- Cmp. -/
def cmpZ (a b : Int) : Int := if a < b then -1 else if a > b then 1 else 0
theorem zcmp_ok (K : Nat) (hK : 1000 < K) (d : Nat) (H : Heap) {v w : SV} {a b : Int} (hv : IsInt H v a) (hw : IsInt H w b) (ha : a.natAbs < 2 ^ 4096) (hb : b.natAbs < 2 ^ 4096) :
    runQ wk tab slow K (d + 2) 12 [v, w] H = some (.int .i64 (cmpZ a b), H) := by
  obtain ⟨x, rfl, hx, hxf⟩ := hv
  obtain ⟨y, rfl, hy, hyf⟩ := hw
  have l1 := digs_len ha
  have l2 := digs_len hb
  have c1 := cmp_ok K d H (v := .agg [x]) (w := .agg [y]) (a := a.natAbs) (b := b.natAbs) ⟨x, rfl, hx, hxf⟩ ⟨y, rfl, hy, hyf⟩ (by omega) (by omega)
  have c2 := cmp_ok K d H (v := .agg [y]) (w := .agg [x]) (a := b.natAbs) (b := a.natAbs) ⟨y, rfl, hy, hyf⟩ ⟨x, rfl, hx, hxf⟩ (by omega) (by omega)
  show f12 slow K (runQ wk tab slow K (d + 1)) _ _ H = _
  by_cases h1 : a < 0 <;> by_cases h2 : b < 0 <;> simp only [f12, f12_j1, z_bbox, z_lfld, z_lld0, z_lldn, z_guard, z_cond, h1, h2, decide_true, decide_false, cond_true, cond_false, c1, c2, z_call, z_rest_int] <;> congr 3 <;> unfold cmpZ <;> (try unfold cmpN) <;> repeat' split <;> omega
/-- What an operation tells: the number, or that it is too long. -/
def fitZ (z : Int) : Int := if z.natAbs < 2 ^ 4096 then z else 0
def errZ (z : Int) : Int := if z.natAbs < 2 ^ 4096 then 0 else 3
theorem zadd_ok (K : Nat) (hK : 1000 < K) (d : Nat) (H : Heap) {v w : SV} {a b : Int} (hv : IsInt H v a) (hw : IsInt H w b) (ha : a.natAbs < 2 ^ 4096) (hb : b.natAbs < 2 ^ 4096) :
    ∃ r H', runQ wk tab slow K (d + 5) 46 [v, w] H = some (.tuple [r, .int .i64 (errZ (a + b))], H') ∧ Frame H H' ∧ IsInt H' r (fitZ (a + b)) := by
  obtain ⟨x, rfl, hx, hxf⟩ := hv
  obtain ⟨y, rfl, hy, hyf⟩ := hw
  have nx : IsNat H (.agg [x]) a.natAbs := ⟨x, rfl, hx, hxf⟩
  have ny : IsNat H (.agg [y]) b.natAbs := ⟨y, rfl, hy, hyf⟩
  have l1 := digs_len ha
  have l2 := digs_len hb
  show ∃ r H', f46 slow K (runQ wk tab slow K (d + 4)) _ _ H = _ ∧ _
  by_cases hs : decide (a < 0) = decide (b < 0)
  · have hbeq : (decide (a < 0) == decide (b < 0)) = true := by rw [hs]; exact beq_self_eq_true _
    obtain ⟨r, H1, h1, f1, sl, rfl, h3, h4⟩ := add_ok K d H nx ny hK ha hb
    have hl : (digs (if a.natAbs + b.natAbs < 2 ^ 4096 then a.natAbs + b.natAbs else 0)).length ≤ 128 := by
      split
      · rename_i h; exact digs_len h
      · rw [digs_zero]; simp
    obtain ⟨r2, h5, sl2, rfl, h6, h7⟩ := zmake_ok K (d + 1) H1 (v := .agg [sl]) (decide (a < 0)) ⟨sl, rfl, h3, h4⟩ (by omega)
    have hsum : sgn (decide (a < 0)) (a.natAbs + b.natAbs) = a + b := by
      unfold sgn
      by_cases h : a < 0
      · have hb0 : b < 0 := by rw [decide_eq_true h] at hs; exact of_decide_eq_true hs.symm
        rw [if_pos (decide_eq_true h)]; omega
      · have hb0 : ¬ b < 0 := by rw [decide_eq_false h] at hs; exact of_decide_eq_false hs.symm
        rw [if_neg (by rw [decide_eq_false h]; decide)]; omega
    have habs : (a + b).natAbs = a.natAbs + b.natAbs := by rw [← hsum, sgn_abs]
    have e1 : errZ (a + b) = if a.natAbs + b.natAbs < 2 ^ 4096 then 0 else 3 := by unfold errZ; rw [habs]
    have e2 : fitZ (a + b) = sgn (decide (a < 0)) (if a.natAbs + b.natAbs < 2 ^ 4096 then a.natAbs + b.natAbs else 0) := by
      unfold fitZ
      rw [habs]
      split
      · exact hsum.symm
      · unfold sgn; split <;> rfl
    rw [e1, e2]
    refine ⟨_, H1, ?_, f1, sl2, rfl, h6, h7⟩
    simp only [f46, z_bbox, z_lfld, z_lld0, z_beql, hbeq, z_cond, cond_true, z_lldn, h1, z_call, z_ext0, z_ext1, z_bst1, z_lload1, h5, z_bst2, z_resc2, z_rest_int]
  · have hbeq : (decide (a < 0) == decide (b < 0)) = false := beq_eq_false_iff_ne.2 hs
    have c1 := cmp_ok K (d + 3) H nx ny (by omega) (by omega)
    -- the greater one's sign
    have main : ∀ (u w : SV) (p q : Int), IsNat H (.agg [u]) p.natAbs → IsNat H (.agg [w]) q.natAbs → p.natAbs < 2 ^ 4096 → q.natAbs ≤ p.natAbs → decide (p < 0) ≠ decide (q < 0) → p + q = a + b →
        ∃ r H', f46_j2 slow K (runQ wk tab slow K (d + 4)) (.box [.bool (decide (p < 0)), u]) (.box [.bool (decide (q < 0)), w]) (.box [.bool false, .slice nilSl]) H = some (.tuple [r, .int .i64 (errZ (a + b))], H') ∧ Frame H H' ∧ IsInt H' r (fitZ (a + b)) := fun u w p q hu hw hp hqp hne hpq => by
      obtain ⟨r, H1, h1, f1, sl, rfl, h3, h4⟩ := sub_ok K (d + 1) H hu hw hK hp
      have hl := digs_len (n := p.natAbs - q.natAbs) (by omega)
      obtain ⟨r2, h5, sl2, rfl, h6, h7⟩ := zmake_ok K (d + 1) H1 (v := .agg [sl]) (decide (p < 0)) ⟨sl, rfl, h3, h4⟩ (by omega)
      have hlt : ¬ p.natAbs < q.natAbs := by omega
      have hsum : sgn (decide (p < 0)) (p.natAbs - q.natAbs) = a + b := by
        rw [← hpq]
        unfold sgn
        by_cases h : p < 0
        · have hq0 : ¬ q < 0 := fun hq => hne (by rw [decide_eq_true h, decide_eq_true hq])
          rw [if_pos (decide_eq_true h)]; omega
        · have hq0 : q < 0 := Decidable.byContradiction fun hq => hne (by rw [decide_eq_false h, decide_eq_false hq])
          rw [if_neg (by rw [decide_eq_false h]; decide)]; omega
      have hfit : (a + b).natAbs < 2 ^ 4096 := by rw [← hsum, sgn_abs]; omega
      have e1 : errZ (a + b) = 0 := if_pos hfit
      have e2 : fitZ (a + b) = a + b := if_pos hfit
      rw [hsum] at h6 h5
      rw [if_neg hlt] at h1
      rw [e1, e2]
      refine ⟨_, H1, ?_, f1, sl2, rfl, h6, h7⟩
      simp only [f46_j2, z_lfld, z_lldn, h1, z_call, z_ext0, z_ext1, z_bst1, z_lld0, z_lload1, h5, z_bst2, z_resc2, z_rest_int]
    by_cases hc : a.natAbs < b.natAbs
    · have hcm : cmpN a.natAbs b.natAbs < 0 := by simp [cmpN, hc]
      simp only [f46, z_bbox, z_lfld, z_lld0, z_beql, hbeq, z_cond, cond_false, z_lldn, c1, z_call, z_lss, decide_eq_true hcm, cond_true, z_lload2, z_bst2]
      exact main y x b a ny nx hb (by omega) (fun e => hs e.symm) (Int.add_comm b a)
    · have hcm : ¬ cmpN a.natAbs b.natAbs < 0 := by unfold cmpN; rw [if_neg hc]; split <;> omega
      simp only [f46, z_bbox, z_lfld, z_lld0, z_beql, hbeq, z_cond, cond_false, z_lldn, c1, z_call, z_lss, decide_eq_false hcm]
      exact main x y a b nx ny ha (by omega) hs rfl
theorem zmul_ok (K : Nat) (hK : 200000 < K) (d : Nat) (H : Heap) {v w : SV} {a b : Int} (hv : IsInt H v a) (hw : IsInt H w b) (ha : a.natAbs < 2 ^ 4096) (hb : b.natAbs < 2 ^ 4096) :
    ∃ r H', runQ wk tab slow K (d + 5) 26 [v, w] H = some (.tuple [r, .int .i64 (errZ (a * b))], H') ∧ Frame H H' ∧ IsInt H' r (fitZ (a * b)) := by
  obtain ⟨x, rfl, hx, hxf⟩ := hv
  obtain ⟨y, rfl, hy, hyf⟩ := hw
  obtain ⟨r, H1, h1, f1, sl, rfl, h3, h4⟩ := mul_nat_ok K d H (v := .agg [x]) (w := .agg [y]) (a := a.natAbs) (b := b.natAbs) ⟨x, rfl, hx, hxf⟩ ⟨y, rfl, hy, hyf⟩ hK ha hb
  have hl : (digs (if a.natAbs * b.natAbs < 2 ^ 4096 then a.natAbs * b.natAbs else 0)).length ≤ 128 := by
    split
    · rename_i h; exact digs_len h
    · rw [digs_zero]; simp
  obtain ⟨r2, h5, sl2, rfl, h6, h7⟩ := zmake_ok K (d + 1) H1 (v := .agg [sl]) (!(decide (a < 0) == decide (b < 0))) ⟨sl, rfl, h3, h4⟩ (by omega)
  have habs : (a * b).natAbs = a.natAbs * b.natAbs := Int.natAbs_mul a b
  have hprod : sgn (!(decide (a < 0) == decide (b < 0))) (a.natAbs * b.natAbs) = a * b := by
    conv => rhs; rw [← sgn_self a, ← sgn_self b]
    unfold sgn
    by_cases h1 : a < 0 <;> by_cases h2 : b < 0 <;> simp [h1, h2, Int.natCast_mul, Int.neg_mul, Int.mul_neg]
  have e1 : errZ (a * b) = if a.natAbs * b.natAbs < 2 ^ 4096 then 0 else 3 := by unfold errZ; rw [habs]
  have e2 : fitZ (a * b) = sgn (!(decide (a < 0) == decide (b < 0))) (if a.natAbs * b.natAbs < 2 ^ 4096 then a.natAbs * b.natAbs else 0) := by
    unfold fitZ
    rw [habs]
    split
    · exact hprod.symm
    · unfold sgn; split <;> rfl
  show ∃ r H', f26 slow K (runQ wk tab slow K (d + 4)) _ _ H = _ ∧ _
  rw [e1, e2]
  refine ⟨_, H1, ?_, f1, sl2, rfl, h6, h7⟩
  simp only [f26, z_bbox, z_lfld, z_lld0, z_lldn, h1, z_call, z_ext0, z_ext1, z_bst1, z_bneq, z_lload1, h5, z_bst2, z_resc2, z_rest_int]
end Go.Sh.Of

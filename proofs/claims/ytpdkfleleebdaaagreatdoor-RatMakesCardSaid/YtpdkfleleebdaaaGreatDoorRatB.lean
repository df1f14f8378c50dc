/- Fractions of the reference: contracts of parquetref03, of fractions that are small. -/
import Derived.Test.YtpdkfleleebdaaaGreatDoorRef
import Derived.Test.YtpdkfleleebdaaaGreatDoorRatA
set_option linter.unusedVariables false
set_option linter.unusedSimpArgs false
set_option exponentiation.threshold 20000
namespace Go.Sh.Of
open Go Go.Sh
theorem rgcdN_loop (K : Nat) (hK : 3000000 < K) (d : Nat) {H0 : Heap} : ∀ (b fuel : Nat) (H : Heap) (x y : SV) (a : Nat), gF a b < fuel -> (rdigs a).length < 100000 -> (rdigs b).length < 100000 -> Frame H0 H -> IsR H x a -> IsR H y b ->
  ∃ r H', slow.loop2 (f58_l1 slow K (runQ wk tab slow K (d + 4))) fuel x y H = some (r, H') /\ Frame H0 H' /\ IsR H' r (Nat.gcd a b) := by
 intro b
 induction b using Nat.strongRecOn with
 | ind b ih =>
  intro fuel H x y a hf ha hb hfr hx hy
  obtain ⟨fuel, rfl⟩ : ∃ m, fuel = m + 1 := ⟨fuel - 1, by omega⟩
  rw [z_loop2]
  by_cases h0 : b = 0
  ·subst h0
   have e1 : ∀ k, slow.gtr (i64 (rdigs 0).length) (.int .i64 0) k = k (.bool false) := fun k => by rw [rdigs_zero, z_gtr]; rfl
   refine ⟨x, H, ?_, hfr, ?_⟩
   ·simp only [f58_l1, rlen hy, e1, z_cond, cond_false, z_rest hx.good]
   ·rw [Nat.gcd_zero_right]
    exact hx
  ·have hb0 : 0 < b := Nat.pos_of_ne_zero h0
   have hne : rdigs b ≠ [] := fun h => h0 (rdigs_nil.1 h)
   have hpos := List.length_pos_iff.2 hne
   have e1 : ∀ k, slow.gtr (i64 (rdigs b).length) (.int .i64 0) k = k (.bool true) := fun k => by rw [show (SV.int .i64 0) = i64 0 from rfl, n_gtr, decide_eq_true hpos]
   obtain ⟨q, r, H1, h1, g1, q1, r1⟩ := rdiv_ok K d H hx hy hb0 (by omega) (by omega) hK
   have hmod := Nat.mod_lt a hb0
   rw [gF_pos h0] at hf
   have hml : (rdigs (a % b)).length < 100000 := Nat.lt_of_le_of_lt (rdigs_mono (Nat.le_of_lt hmod)) hb
   obtain ⟨r2, H2, h2, g2, y2⟩ := ih (a % b) hmod fuel H1 y r b (by omega) hb hml (Frame.trans hfr g1) (hy.fr g1) r1
   refine ⟨r2, H2, ?_, g2, ?_⟩
   ·simp only [f58_l1, rlen hy, e1, z_cond, cond_true, h1, z_call, z_ext0, z_ext1]
    exact h2
   ·rw [Nat.gcd_comm a b, Nat.gcd_rec, Nat.gcd_comm]
    exact y2
theorem rgcdN_ok (K : Nat) (hK : 3000000 < K) (d : Nat) (H : Heap) {v w : SV} {a b : Nat} (hv : IsR H v a) (hw : IsR H w b) (ha : (rdigs a).length < 100000) (hb : b < 2 ^ 9000) :
  ∃ r H', runQ wk tab slow K (d + 5) 58 [v, w] H = some (r, H') /\ Frame H H' /\ IsR H' r (Nat.gcd a b) := by
 have h3 := gF_le 9000 a b hb
 have h4 : (rdigs b).length <= 563 := rdigs_len_le (k := 563) (by
  rw [pow_D (k := 9008) rfl]
  exact Nat.lt_of_lt_of_le hb (Nat.pow_le_pow_right (by decide) (by omega)))
 exact rgcdN_loop K hK d b K H v w a (by omega) ha (by omega) (Fr.refl _ _) hv hw
def IsQR (H : Heap) (v : SV) (q : Rat) : Prop := ∃ s t, v = .agg [.bool (decide (q.num < 0)), .slice s, .slice t] /\ IsR H (.slice s) q.num.natAbs /\ IsR H (.slice t) q.den
theorem IsQR.fr {H H' : Heap} {v : SV} {q : Rat} (h : IsQR H v q) (hf : Frame H H') : IsQR H' v q := by
 obtain ⟨s, t, e, h1, h2⟩ := h
 exact ⟨s, t, e, Arr.fr h1 hf, Arr.fr h2 hf⟩
theorem p4096_9000 {b : Nat} (h : b < 2 ^ 4096) : b < 2 ^ 9000 := Nat.lt_of_lt_of_le h (Nat.pow_le_pow_right (by decide) (by decide))
theorem sgn_zero (m : Bool) : sgn m 0 = 0 := by cases m <;> rfl
theorem sgn_nat (m : Bool) (a : Nat) : (sgn m a).natAbs = a := by cases m <;> simp [sgn]
theorem sgn_lt {m : Bool} {a : Nat} (h : 0 < a) : decide (sgn m a < 0) = m := by
 cases m
 ·exact decide_eq_false (by show ¬ ((a : Int) < 0); omega)
 ·exact decide_eq_true (by show (-(a : Int) < 0); omega)
theorem rlow_run (K d : Nat) (H : Heap) (m v w : SV) : runQ wk tab slow K (d + 6) 28 [m, v, w] H = f28 slow K (runQ wk tab slow K (d + 5)) m v w H := Eq.trans rfl rfl
theorem rlow_ok (K : Nat) (hK : 3000000 < K) (d : Nat) (H : Heap) (m : Bool) {v w : SV} {a b : Nat} (hv : IsR H v a) (hw : IsR H w b) (hb : 0 < b) (ha' : a < 2 ^ 4096) (hb' : b < 2 ^ 4096) :
  ∃ r H', runQ wk tab slow K (d + 6) 28 [.bool m, v, w] H = some (r, H') /\ Frame H H' /\ IsQR H' r (mkRat (sgn m a) b) := by
 rw [rlow_run]
 have la := big_rd ha'
 have lb := big_rd hb'
 by_cases h0 : a = 0
 ·subst h0
  have e1 : ∀ k, slow.eql (i64 (rdigs 0).length) (.int .i64 0) k = k (.bool true) := fun k => by rw [rdigs_zero, z_eql]; rfl
  obtain ⟨r, H1, h1, f1, ir⟩ := rof_ok K (by omega) (d + 4) H (n := 1) (by decide)
  have h1' : runQ wk tab slow K (d + 5) 56 [.int .u64 1] H = some (r, H1) := h1
  obtain ⟨t, rfl⟩ := IsR.slice ir
  have eq : mkRat (sgn m 0) b = 0 := by rw [sgn_zero, Rat.zero_mkRat]
  refine ⟨.agg [.bool false, .slice nilSl, .slice t], H1, ?_, f1, nilSl, t, ?_, ?_, ?_⟩
  ·simp only [f28, rlen hv, e1, z_cond, cond_true, h1', z_call, z_build3, z_bst3, z_resc3]
  ·rw [eq]; rfl
  ·rw [eq, show (0 : Rat).num = 0 from rfl, Int.natAbs_zero]; exact IsR.zero (Arr.nil _)
  ·rw [eq, show (0 : Rat).den = 1 from rfl]; exact ir
 ·have hne : (rdigs a).length ≠ 0 := fun h => h0 (rdigs_nil.1 (List.eq_nil_of_length_eq_zero h))
  have e1 : ∀ k, slow.eql (i64 (rdigs a).length) (.int .i64 0) k = k (.bool false) := fun k => by rw [show (SV.int .i64 0) = i64 0 from rfl, n_eql, decide_eq_false hne]
  obtain ⟨g, H1, h1, f1, ig⟩ := rgcdN_ok K hK d H hv hw (by omega) (p4096_9000 hb')
  have hg0 := Nat.gcd_pos_of_pos_right a hb
  have hgb := Nat.gcd_le_right a hb
  have hga : Nat.gcd a b <= a := Nat.gcd_le_left b (by omega)
  have lg := big_rd (Nat.lt_of_le_of_lt hgb hb')
  obtain ⟨x, x', H2, h2, f2, ix, _⟩ := rdiv_ok K (d + 1) H1 (hv.fr f1) ig hg0 (by omega) (by omega) hK
  obtain ⟨y, y', H3, h3, f3, iy, _⟩ := rdiv_ok K (d + 1) H2 (hw.fr (Frame.trans f1 f2)) (ig.fr f2) hg0 (by omega) (by omega) hK
  have ix3 := ix.fr f3
  obtain ⟨s, rfl⟩ := IsR.slice ix
  obtain ⟨t, rfl⟩ := IsR.slice iy
  have m1 := mk_sgn (z := sgn m a) hb
  have m2 := mk_den (z := sgn m a) hb
  rw [sgn_nat, sgn_lt (by omega)] at m1
  rw [sgn_nat] at m2
  have hq : 0 < a / Nat.gcd a b := Nat.div_pos hga hg0
  refine ⟨.agg [.bool m, .slice s, .slice t], H3, ?_, Frame.trans f1 (Frame.trans f2 f3), s, t, ?_, ?_, ?_⟩
  ·simp only [f28, rlen hv, e1, z_cond, cond_false, h1, z_call, h2, z_ext0, z_ext1, h3, z_build3, z_bst3, z_resc3]
  ·rw [m1, sgn_lt hq]
  ·rw [m1, sgn_nat]; exact ix3
  ·rw [m2]; exact iy
theorem rwhole_run (K d : Nat) (H : Heap) (a v : SV) : runQ wk tab slow K (d + 6) 12 [a, v] H = f12 slow K (runQ wk tab slow K (d + 5)) a v H := Eq.trans rfl rfl
theorem rwhole_ok (K : Nat) (hK : 3000000 < K) (d : Nat) (H : Heap) {v : SV} {z : Int} (hv : IsR H v z.natAbs) (hz : z.natAbs < 2 ^ 4096) :
  ∃ H', runQ wk tab slow K (d + 6) 12 [.bool (decide (z < 0)), v] H = some (.str (textZ z), H') /\ Frame H H' := by
 have k1 := big_rd hz
 have k2 := big_dec hz
 obtain ⟨H1, h1, f1⟩ := rtext_ok K d H hv hK (by omega) (by omega)
 refine ⟨H1, ?_, f1⟩
 rw [rwhole_run]
 by_cases h : z < 0
 ·have h5 := dec_len z.natAbs
  have hne : (rdigs z.natAbs).length > 0 := List.length_pos_iff.2 fun e => by have := rdigs_nil.1 e; omega
  have e1 : ∀ k, slow.gtr (i64 (rdigs z.natAbs).length) (.int .i64 0) k = k (.bool true) := fun k => by rw [show (SV.int .i64 0) = i64 0 from rfl, n_gtr, decide_eq_true hne]
  have e2 : ∀ k, slow.add (.str [45]) (.str (dec z.natAbs)) k = k (.str (45 :: dec z.natAbs)) := fun k => z_sadd k (by rw [List.length_singleton]; omega)
  simp only [f12, h1, z_call, decide_eq_true h, z_guard, cond_true, rlen hv, e1, f12_j1, z_cond, e2, f12_j2, z_rest_str]
  simp [textZ, h]
 ·simp only [f12, h1, z_call, decide_eq_false h, z_guard, cond_false, f12_j1, z_cond, f12_j2, z_rest_str]
  simp [textZ, h]
end Go.Sh.Of

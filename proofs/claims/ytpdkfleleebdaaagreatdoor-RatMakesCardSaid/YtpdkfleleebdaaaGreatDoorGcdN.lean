/- Contract of nat.Gcd, of numbers of any size. -/
import Derived.Test.YtpdkfleleebdaaaGreatDoorNum
set_option linter.unusedVariables false
set_option linter.unusedSimpArgs false
set_option exponentiation.threshold 20000
namespace Go.Sh.Of
open Go Go.Sh
theorem digs_mono {a b : Nat} (h : a <= b) : (digs a).length <= (digs b).length := digs_len_le (Nat.lt_of_le_of_lt h (by have := val_lt (digs_small b); rwa [val_digs] at this))
def gF (a b : Nat) : Nat := if h : b = 0 then 0 else gF b (a % b) + 1
termination_by b
decreasing_by exact Nat.mod_lt a (Nat.pos_of_ne_zero h)
theorem gF_zero (a : Nat) : gF a 0 = 0 := by rw [gF]; rfl
theorem gF_pos {a b : Nat} (h : b ≠ 0) : gF a b = gF b (a % b) + 1 := by rw [gF, dif_neg h]
theorem gF_le : ∀ (n a b : Nat), b < 2 ^ n -> gF a b <= 2 * n
 | 0, a, b, h => by
  have : b = 0 := by simpa using h
  subst this
  rw [gF_zero]
  omega
 | n + 1, a, b, h => by
  by_cases h0 : b = 0
  ·subst h0
   rw [gF_zero]
   omega
  ·rw [gF_pos h0]
   by_cases h1 : a % b = 0
   ·rw [h1, gF_zero]
    omega
   ·rw [gF_pos h1]
    have hr := Nat.mod_lt a (Nat.pos_of_ne_zero h0)
    have hs := Nat.mod_lt b (Nat.pos_of_ne_zero h1)
    have hd := Nat.div_add_mod b (a % b)
    have hq : 1 <= b / (a % b) := Nat.div_pos (Nat.le_of_lt hr) (Nat.pos_of_ne_zero h1)
    have hm : a % b <= (a % b) * (b / (a % b)) := Nat.le_mul_of_pos_right _ hq
    have h2 : b % (a % b) < 2 ^ n := by
     rw [Nat.pow_succ] at h
     omega
    have := gF_le n (a % b) (b % (a % b)) h2
    omega
theorem gcdN_loop (K : Nat) (hK : 200000 < K) (d : Nat) {H0 : Heap} : ∀ (b fuel : Nat) (H : Heap) (x y : SV) (a : Nat), gF a b < fuel -> (digs a).length < 10000 -> (digs b).length < 10000 -> Frame H0 H -> IsNat H (.agg [x]) a -> IsNat H (.agg [y]) b ->
  ∃ r H', slow.loop3 (f40_l1 slow K (runQ wk tab slow K (d + 4))) fuel (.box [x]) (.box [y]) (.box [.slice nilSl]) H = some (r, H') /\ Frame H0 H' /\ IsNat H' r (Nat.gcd a b) := by
 intro b
 induction b using Nat.strongRecOn with
 | ind b ih =>
  intro fuel H x y a hf ha hb' hfr hx hy
  obtain ⟨fuel, rfl⟩ : ∃ m, fuel = m + 1 := ⟨fuel - 1, by omega⟩
  rw [z_loop3]
  have hyl : ∀ k, slow.len y k = k (i64 (digs b).length) := fun k => by
   obtain ⟨y', e, hy', _⟩ := hy
   cases e
   rw [blen hy']
  by_cases h0 : b = 0
  ·subst h0
   have e1 : ∀ k, slow.gtr (i64 (digs 0).length) (.int .i64 0) k = k (.bool false) := fun k => by rw [digs_zero, z_gtr]; rfl
   refine ⟨.agg [x], H, ?_, hfr, ?_⟩
   ·simp only [f40_l1, z_lfld, z_lld0, hyl, e1, z_cond, cond_false, z_lload1, z_bst1, z_resc1]
   ·rw [Nat.gcd_zero_right]
    exact hx
  ·have hb : 0 < b := Nat.pos_of_ne_zero h0
   have hdl : 0 < (digs b).length := List.length_pos_iff.2 fun e => h0 (digs_nil.1 e)
   have e1 : ∀ k, slow.gtr (i64 (digs b).length) (.int .i64 0) k = k (.bool true) := fun k => by rw [show (SV.int .i64 0) = i64 0 from rfl, n_gtr, decide_eq_true hdl]
   obtain ⟨q, r, H1, h1, f1, q1, r1⟩ := div_ok K hK d H hx hy hb ha
   obtain ⟨q', rfl, hq', _⟩ := q1
   have r1' := r1
   obtain ⟨r', rfl, hr', _⟩ := r1
   have hmod := Nat.mod_lt a hb
   rw [gF_pos h0] at hf
   have hml : (digs (a % b)).length < 10000 := Nat.lt_of_le_of_lt (digs_mono (Nat.le_of_lt hmod)) hb'
   obtain ⟨r2, H2, h2, f2, g2⟩ := ih (a % b) hmod fuel H1 y r' b (by omega) hb' hml (Frame.trans hfr f1) (hy.fr f1) r1'
   refine ⟨r2, H2, ?_, f2, ?_⟩
   ·simp only [f40_l1, z_lfld, z_lld0, hyl, e1, z_cond, cond_true, z_lload1, h1, z_call, z_ext0, z_ext1, z_ext2, z_bst1]
    exact h2
   ·rw [Nat.gcd_comm a b, Nat.gcd_rec, Nat.gcd_comm]
    exact g2
theorem gcdN_ok (K : Nat) (hK : 200000 < K) (d : Nat) (H : Heap) {v w : SV} {a b : Nat} (hv : IsNat H v a) (hw : IsNat H w b) (ha : a < 2 ^ 4096) (hb : b < 2 ^ 4096) :
  ∃ r H', runQ wk tab slow K (d + 5) 40 [v, w] H = some (r, H') /\ Frame H H' /\ IsNat H' r (Nat.gcd a b) := by
 have hv' := hv
 have hw' := hw
 obtain ⟨x, rfl, _, _⟩ := hv
 obtain ⟨y, rfl, _, _⟩ := hw
 have h1 := dg_len ha
 have h2 := dg_len hb
 have h3 := gF_le 4096 a b hb
 show ∃ r H', f40 slow K (runQ wk tab slow K (d + 4)) (.agg [x]) (.agg [y]) H = _ /\ _
 simp only [f40, z_bbox]
 exact gcdN_loop K hK d b K H x y a (by omega) (by omega) (by omega) (Fr.refl _ _) hv' hw'
end Go.Sh.Of

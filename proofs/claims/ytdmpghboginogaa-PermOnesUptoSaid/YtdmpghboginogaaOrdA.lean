/- Contracts of the package nat: Div by a number of one digit, Gcd. -/
import Derived.Test.YtdmpghboginogaaNatM
import Derived.Test.YtdmpghboginogaaSh31
set_option linter.unusedVariables false
set_option linter.unusedSimpArgs false
namespace Go.Sh.Of
open Go

theorem digs_one {b : Nat} (hb : 0 < b) (hB : b < B) : digs b = [b] := by
  rw [digs_pos (by omega), Nat.mod_eq_of_lt hB, Nat.div_eq_of_lt hB, digs_zero]
theorem div1_ok (K : Nat) (hK : 100000 < K) (d : Nat) (H : Heap) {v w : SV} {a b : Nat} (hv : IsNat H v a) (hw : IsNat H w b) (hb : 0 < b) (hB : b < B) (ha : (digs a).length < 10000) :
    ∃ q r H', runQ wk tab slow K (d + 4) 26 [v, w] H = some (.tuple [q, r, .int .i64 0], H') ∧ Frame H H' ∧ IsNat H' q (a / b) ∧ IsNat H' r (a % b) := by
  have hcmp := cmp_ok K (d + 2) H hv hw (by omega) (by omega)
  rw [show d + 2 + 1 = d + 3 from rfl] at hcmp
  obtain ⟨x, rfl, hx, hxf⟩ := hv
  obtain ⟨y, rfl, hy, hyf⟩ := hw
  have hdb := digs_one hb hB
  have hyl : ∀ k, slow.len y k = k (i64 1) := fun k => by rw [blen hy, hdb]; rfl
  show ∃ q r H', f26 slow K (runQ wk tab slow K (d + 3)) (.agg [x]) (.agg [y]) H = _ ∧ _
  have e1 : ∀ k, slow.eql (i64 1) (.int .i64 0) k = k (.bool false) := fun k => by rw [z_eql]; rfl
  have e2 : ∀ k, slow.eql (i64 1) (.int .i64 1) k = k (.bool true) := fun k => by rw [z_eql]; rfl
  simp only [f26, z_bbox, z_lfld, z_lld0, hyl, e1, z_cond, cond_false, z_lload1, hcmp, z_call, z_lss]
  by_cases hlt : a < b
  · have hc : decide (cmpN a b < 0) = true := by
      unfold cmpN
      rw [if_pos hlt]
      rfl
    rw [hc]
    simp only [cond_true, z_build0, z_bst1, z_resc1]
    refine ⟨.agg [.slice nilSl], .agg [x], H, rfl, Fr.refl _ _, ?_, ?_⟩
    · rw [Nat.div_eq_of_lt hlt]
      exact ⟨_, rfl, by rw [digs_zero]; exact Arr.nil _, rfl⟩
    · rw [Nat.mod_eq_of_lt hlt]
      exact ⟨x, rfl, hx, hxf⟩
  · have hc : decide (cmpN a b < 0) = false := by
      unfold cmpN
      rw [if_neg hlt]
      split <;> rfl
    rw [hc]
    have ha0 : digs a ≠ [] := fun e => by have := digs_nil.1 e; omega
    obtain ⟨u, H1, hu, ou, fu, _, _, _⟩ := (Own.nil H.size H).append (Nat.le_refl _) hx (by_ := 4) (roomy_small (by simp; omega))
    rw [List.nil_append] at ou
    obtain ⟨r, wr⟩ := ou.wr (by simpa using ha0)
    obtain ⟨H2, h2, w2, f2, _, _⟩ := short_ok K (d + 2) H1 hb hB (digs_small a) (by omega) (by omega) wr
    rw [show d + 2 + 1 = d + 3 from rfl, val_digs] at h2
    obtain ⟨s1, s2, _, s4⟩ := shortL_spec hb hB (digs_small a)
    obtain ⟨sl, h3, cu⟩ := cut_ok K (d + 2) H2 (ds := (shortL b (digs a)).1) w2.arr s4 ou.root (by rw [s1]; omega) (by rw [s1]; omega)
    rw [show d + 2 + 1 = d + 3 from rfl] at h3
    have hmB : a % b < B := Nat.lt_trans (Nat.mod_lt a hb) hB
    have hmB2 : a % b < 18446744073709551616 := Nat.lt_trans hmB (by unfold B; omega)
    obtain ⟨rv, H3, h4, f3, n3⟩ := of_ok K (by omega) (d + 1) H2 hmB2
    rw [show d + 1 + 2 = d + 3 from rfl] at h4
    have hq := cu.isNat
    rw [(shortL_val hb hB (digs_small a)).1, val_digs] at hq
    have n3' := n3
    obtain ⟨z, rfl, hz, hzf⟩ := n3
    have hld : ∀ k, slow.idx 1 y (.int .i64 0) (fun p => slow.load 1 false p H1 k) = k (u32 b) := fun k => (hy.fr fu).load (i := 0) (limbs_get (by rw [hdb]; rfl)) .i64 k
    refine ⟨.agg [sl], .agg [z], H3, ?_, Frame.trans (Fr.trans fu f2) f3, hq.fr f3, n3'⟩
    simp only [cond_false, e2, z_cond, cond_true, z_lfld, z_lld0, hu, hld, h2, z_call, h3, n_conv64 _ .u32 (a % b) hmB2, h4, z_bst1, z_resc1]
/-- Gcd, where the second is of one digit. -/
theorem gcd_loop (K : Nat) (hK : 100000 < K) (d : Nat) {H0 : Heap} : ∀ (b fuel : Nat) (H : Heap) (x y : SV) (a : Nat), b < B → b < fuel → (digs a).length < 10000 → Frame H0 H → IsNat H (.agg [x]) a → IsNat H (.agg [y]) b →
    ∃ r H', slow.loop3 (f27_l1 slow K (runQ wk tab slow K (d + 4))) fuel (.box [x]) (.box [y]) (.box [.slice nilSl]) H = some (r, H') ∧ Frame H0 H' ∧ IsNat H' r (Nat.gcd a b) := by
  intro b
  induction b using Nat.strongRecOn with
  | ind b ih =>
    intro fuel H x y a hB hf ha hfr hx hy
    obtain ⟨fuel, rfl⟩ : ∃ m, fuel = m + 1 := ⟨fuel - 1, by omega⟩
    rw [z_loop3]
    have hyl : ∀ k, slow.len y k = k (i64 (digs b).length) := fun k => by
      obtain ⟨y', e, hy', _⟩ := hy
      cases e
      rw [blen hy']
    by_cases h0 : b = 0
    · subst h0
      have e1 : ∀ k, slow.gtr (i64 (digs 0).length) (.int .i64 0) k = k (.bool false) := fun k => by rw [digs_zero, z_gtr]; rfl
      refine ⟨.agg [x], H, ?_, hfr, ?_⟩
      · simp only [f27_l1, z_lfld, z_lld0, hyl, e1, z_cond, cond_false, z_lload1, z_bst1, z_resc1]
      · rw [Nat.gcd_zero_right]
        exact hx
    · have hb : 0 < b := Nat.pos_of_ne_zero h0
      have hdb := digs_one hb hB
      have e1 : ∀ k, slow.gtr (i64 (digs b).length) (.int .i64 0) k = k (.bool true) := fun k => by rw [hdb, z_gtr]; rfl
      obtain ⟨q, r, H1, h1, f1, q1, r1⟩ := div1_ok K hK d H hx hy hb hB ha
      obtain ⟨q', rfl, hq', _⟩ := q1
      have r1' := r1
      obtain ⟨r', rfl, hr', _⟩ := r1
      have hmod := Nat.mod_lt a hb
      obtain ⟨r2, H2, h2, f2, g2⟩ := ih (a % b) hmod fuel H1 y r' b (by omega) (by omega) (by rw [hdb]; simp) (Frame.trans hfr f1) (hy.fr f1) r1'
      refine ⟨r2, H2, ?_, f2, ?_⟩
      · simp only [f27_l1, z_lfld, z_lld0, hyl, e1, z_cond, cond_true, z_lload1, h1, z_call, z_ext0, z_ext1, z_ext2, z_bst1]
        exact h2
      · rw [Nat.gcd_comm a b, Nat.gcd_rec, Nat.gcd_comm]
        exact g2
theorem gcd_ok (K : Nat) (hK : 100000 < K) (d : Nat) (H : Heap) {v w : SV} {a b : Nat} (hv : IsNat H v a) (hw : IsNat H w b) (hb : b < 1000) (ha : (digs a).length < 10000) :
    ∃ r H', runQ wk tab slow K (d + 5) 27 [v, w] H = some (r, H') ∧ Frame H H' ∧ IsNat H' r (Nat.gcd a b) := by
  have hv' := hv
  have hw' := hw
  obtain ⟨x, rfl, _, _⟩ := hv
  obtain ⟨y, rfl, _, _⟩ := hw
  show ∃ r H', f27 slow K (runQ wk tab slow K (d + 4)) (.agg [x]) (.agg [y]) H = _ ∧ _
  simp only [f27, z_bbox]
  exact gcd_loop K hK d b K H x y a (by unfold B; omega) (by omega) ha (Fr.refl _ _) hv' hw'
end Go.Sh.Of

/- Fractions of the program: contracts of the package rat, of fractions that are small. -/
import Derived.Test.YtpdkfleleebdaaaGreatDoorGcdN
import Derived.Test.YtpdkfleleebdaaaGreatDoorSh31
set_option linter.unusedVariables false
set_option linter.unusedSimpArgs false
set_option exponentiation.threshold 20000
namespace Go.Sh.Of
open Go Go.Sh
theorem mk_num {z : Int} {n : Nat} (hn : 0 < n) : (mkRat z n).num = z / ((Nat.gcd z.natAbs n : Nat) : Int) := by
 rw [Rat.num_mkRat, if_neg (by omega), Nat.gcd_comm]
theorem mk_den {z : Int} {n : Nat} (hn : 0 < n) : (mkRat z n).den = n / Nat.gcd z.natAbs n := by
 rw [Rat.den_mkRat, if_neg (by omega), Nat.gcd_comm]
theorem mk_abs {z : Int} {n : Nat} (hn : 0 < n) : (mkRat z n).num.natAbs = z.natAbs / Nat.gcd z.natAbs n := by
 rw [mk_num hn, Int.natAbs_ediv_of_dvd, Int.natAbs_natCast]
 exact Int.ofNat_dvd_left.2 (Nat.gcd_dvd_left _ _)
theorem mk_sgn {z : Int} {n : Nat} (hn : 0 < n) : (mkRat z n).num = sgn (decide (z < 0)) (z.natAbs / Nat.gcd z.natAbs n) := by
 rw [<- mk_abs hn]
 have hg : (0 : Int) < ((Nat.gcd z.natAbs n : Nat) : Int) := by
  have := Nat.gcd_pos_of_pos_right z.natAbs hn
  omega
 have hs := mk_num (z := z) hn
 unfold sgn
 by_cases h : z < 0
 ·have h1 : (mkRat z n).num < 0 := by
   rw [hs]
   exact Int.ediv_neg_of_neg_of_pos h hg
  rw [decide_eq_true h, if_pos rfl]
  omega
 ·have h1 : 0 <= (mkRat z n).num := by
   rw [hs]
   exact Int.ediv_nonneg (by omega) (by omega)
  rw [decide_eq_false h, if_neg (by decide)]
  omega
section
variable {k : K1}
theorem z_bst3 (a b c x y z : SV) (k : KL) : slow.bstore 0 3 (.box [a, b, c]) (.agg [x, y, z]) k = k [x, y, z] := rfl
theorem z_resc3 (x y z : SV) : slow.resc 3 true (.box [x, y, z]) k = k (.agg [x, y, z]) := rfl
theorem z_lload3 (x y z : SV) : slow.lload 0 3 true (.box [x, y, z]) k = k (.agg [x, y, z]) := rfl
theorem z_lld3i (x y z : SV) : slow.lloadp 2 true (.box [x, y, z]) (.lptr 0) k = k (.agg [x, y]) := rfl
theorem z_lld3n (x y z : SV) : slow.lloadp 1 true (.box [x, y, z]) (.lptr 2) k = k (.agg [z]) := rfl
theorem z_lld3 (x y z : SV) : slow.lloadp 1 false (.box [x, y, z]) (.lptr 2) k = k z := rfl
theorem z_build3i (x y t : SV) : slow.build [.bool false, .slice nilSl, .slice nilSl] [(0, 2), (2, 1)] [.agg [x, y], .agg [t]] k = k (.agg [x, y, t]) := rfl
theorem z_build3o (x y : SV) : slow.build [.bool false, .slice nilSl, .slice nilSl] [(0, 2)] [.agg [x, y]] k = k (.agg [x, y, .slice nilSl]) := rfl
theorem z_build3 (b : Bool) (s t : Sl) : slow.build [.bool false, .slice nilSl, .slice nilSl] [(0, 1), (1, 1), (2, 1)] [.bool b, .slice s, .slice t] k = k (.agg [.bool b, .slice s, .slice t]) := rfl
end
def IsQ (H : Heap) (v : SV) (q : Rat) : Prop := ∃ b s t, v = .agg [b, s, t] /\ IsInt H (.agg [b, s]) q.num /\ IsNat H (.agg [t]) (q.den - 1)
theorem IsQ.fr {H H' : Heap} {v : SV} {q : Rat} (h : IsQ H v q) (hf : Frame H H') : IsQ H' v q := by
 obtain ⟨b, s, t, e, h1, h2⟩ := h
 exact ⟨b, s, t, e, h1.fr hf, h2.fr hf⟩
theorem IsNat.zero (H : Heap) : IsNat H (.agg [.slice nilSl]) 0 := ⟨.slice nilSl, rfl, by rw [digs_zero]; exact Arr.nil _, rfl⟩
theorem IsQ.zero (H : Heap) : IsQ H (.agg [.bool false, .slice nilSl, .slice nilSl]) 0 := ⟨_, _, _, rfl, IsInt.zero H, IsNat.zero H⟩
theorem one_ok (K : Nat) (hK : 2 < K) (d : Nat) (H : Heap) : ∃ r H', runQ wk tab slow K (d + 3) 41 [] H = some (r, H') /\ Frame H H' /\ IsNat H' r 1 := by
 obtain ⟨r, H1, h1, f1, sl, rfl, i1⟩ := of_ok K hK d H (n := 1) (by decide)
 refine ⟨.agg [sl], H1, ?_, f1, sl, rfl, i1⟩
 show f41 slow K (runQ wk tab slow K (d + 2)) H = _
 have h1' : runQ wk tab slow K (d + 2) 33 [.int .u64 1] H = some (.agg [sl], H1) := h1
 simp only [f41, h1', z_call, z_bst1, z_resc1]
theorem low_j1 (K : Nat) (hK : 1000 < K) (d : Nat) {H0 H : Heap} {b x y : SV} {z : Int} {n : Nat} (hfr : Frame H0 H) (hv : IsInt H (.agg [b, x]) z) (hw : IsNat H (.agg [y]) n) (hn : 0 < n) (hn' : n < 2 ^ 4096) :
  ∃ t H', f26_j1 slow K (runQ wk tab slow K (d + 5)) (.box [b, x]) (.box [y]) (.box [.bool false, .slice nilSl, .slice nilSl]) H = some (.agg [b, x, t], H') /\ Frame H0 H' /\ IsInt H' (.agg [b, x]) z /\ IsNat H' (.agg [t]) (n - 1) := by
 obtain ⟨o, H1, h1, f1, no⟩ := one_ok K (by omega) (d + 2) H
 obtain ⟨l, H2, h2, f2, sl, rfl, i2, i3⟩ := sub_ok K (d + 2) H1 (hw.fr f1) no (by omega) hn'
 refine ⟨sl, H2, ?_, Frame.trans hfr (Frame.trans f1 f2), (hv.fr f1).fr f2, sl, rfl, i2, i3⟩
 simp only [f26_j1, z_lload1, h1, z_call, h2, z_ext0, z_ext1, z_bst1, z_lload2, z_build3i, z_bst3, z_resc3]
theorem low_ok (K : Nat) (hK : 200000 < K) (d : Nat) (H : Heap) {v w : SV} {z : Int} {n : Nat} (hv : IsInt H v z) (hw : IsNat H w n) (hn : 0 < n) (hz : z.natAbs < 2 ^ 4096) (hn' : n < 2 ^ 4096) :
  ∃ r H', runQ wk tab slow K (d + 6) 26 [v, w] H = some (r, H') /\ Frame H H' /\ IsQ H' r (mkRat z n) := by
 obtain ⟨ra, ha, na⟩ := zabs_ok K (d + 4) H hv
 obtain ⟨g, H1, h1, f1, ng⟩ := gcdN_ok K hK d H na hw hz hn'
 obtain ⟨o, H2, h2, f2, no⟩ := one_ok K (by omega) (d + 2) H1
 have hg0 := Nat.gcd_pos_of_pos_right z.natAbs hn
 have hgn := Nat.gcd_le_right z.natAbs hn
 have hg' := Nat.lt_of_le_of_lt hgn hn'
 have hgl := dg_len hg'
 have hc := cmp_ok K (d + 4) H2 (ng.fr f2) no (by omega) (by omega)
 have hv2 := (hv.fr f1).fr f2
 have hw2 := (hw.fr f1).fr f2
 have ng2 := ng.fr f2
 obtain ⟨gs, rfl, hgs⟩ := ng
 obtain ⟨x, rfl, hx⟩ := hv
 obtain ⟨y, rfl, hy⟩ := hw
 have e2 := mk_den (z := z) hn
 have e3 := mk_sgn (z := z) hn
 show ∃ r H', f26 slow K (runQ wk tab slow K (d + 5)) _ _ H = _ /\ _
 have ec : (cmpN (Nat.gcd z.natAbs n) 1 > 0) ↔ 1 < Nat.gcd z.natAbs n := by
  unfold cmpN
  split
  ·omega
  ·split <;> omega
 by_cases hg1 : 1 < Nat.gcd z.natAbs n
 ·obtain ⟨ra2, ha2, na2⟩ := zabs_ok K (d + 4) H2 hv2
  obtain ⟨q1, r1, H3, h3, f3, n3, nr1⟩ := div_ok K hK (d + 1) H2 na2 ng2 hg0 (dg_len hz)
  have hs := zsign_ok K (d + 2) H3 (hv2.fr f3) hz
  have hql : z.natAbs / Nat.gcd z.natAbs n < 2 ^ 4096 := Nat.lt_of_le_of_lt (Nat.div_le_self _ _) hz
  obtain ⟨m, h4, im⟩ := zmake_ok K (d + 2) H3 (decide (signZ z < 0)) n3 (Nat.lt_of_lt_of_le (dg_len hql) (by decide))
  obtain ⟨q2, r2, H5, h5, f5, n5, nr2⟩ := div_ok K hK (d + 1) H3 (hw2.fr f3) (ng2.fr f3) hg0 (dg_len hn')
  have es : decide (signZ z < 0) = decide (z < 0) := by
   refine decide_eq_decide.2 ?_
   unfold signZ
   split
   ·omega
   ·split <;> omega
  rw [es] at h4 im
  rw [<- e3] at im
  obtain ⟨m1, rfl, im1⟩ := im
  obtain ⟨s1, rfl, hs1⟩ := n3
  obtain ⟨s7, rfl, hs7⟩ := nr1
  obtain ⟨y1, rfl, hy1⟩ := n5
  have hdn : 0 < n / Nat.gcd z.natAbs n := Nat.div_pos hgn hg0
  obtain ⟨t, H6, h6, f6, a6, b6⟩ := low_j1 K (by omega) d (H0 := H) (Frame.trans f1 (Frame.trans f2 (Frame.trans f3 f5))) (IsInt.fr ⟨m1, rfl, im1⟩ f5) (y := y1) ⟨y1, rfl, hy1⟩ hdn (Nat.lt_of_le_of_lt (Nat.div_le_self _ _) hn')
  refine ⟨_, H6, ?_, f6, _, _, t, rfl, a6, ?_⟩
  ·simp only [f26, z_bbox, z_lload2, ha, z_call, z_lload1, h1, z_bst1, h2, hc, z_gtr, decide_eq_true (ec.2 hg1), z_cond, cond_true, ha2, h3, z_ext0, z_ext1, z_ext2, hs, z_lss, es, h4, z_bst2, h5]
   exact h6
  ·rw [e2]
   exact b6
 ·have hg2 : Nat.gcd z.natAbs n = 1 := by omega
  rw [hg2, Nat.div_one] at e2 e3
  rw [sgn_self] at e3
  obtain ⟨t, H6, h6, f6, a6, b6⟩ := low_j1 K (by omega) d (H0 := H) (Frame.trans f1 f2) hv2 hw2 hn hn'
  refine ⟨.agg [.bool (decide (z < 0)), x, t], H6, ?_, f6, _, _, t, rfl, ?_, ?_⟩
  ·simp only [f26, z_bbox, z_lload2, ha, z_call, z_lload1, h1, z_bst1, h2, hc, z_gtr, decide_eq_false (mt ec.1 hg1), z_cond, cond_false]
   exact h6
  ·rw [e3]
   exact a6
  ·rw [e2]
   exact b6
theorem qof_ok (K : Nat) (d : Nat) (H : Heap) {v : SV} {z : Int} (hv : IsInt H v z) : ∃ r, runQ wk tab slow K (d + 1) 11 [v] H = some (r, H) /\ IsQ H r (z : Rat) := by
 have hv' := hv
 obtain ⟨x, rfl, hx⟩ := hv
 refine ⟨_, ?_, _, _, _, rfl, by rw [Rat.num_intCast]; exact hv', by rw [Rat.den_intCast]; exact IsNat.zero H⟩
 show f11 slow K (runQ wk tab slow K d) _ H = _
 simp only [f11, z_bbox, z_lload2, z_build3o, z_bst3, z_resc3]
theorem den_ok (K : Nat) (hK : 1000 < K) (d : Nat) (H : Heap) {v : SV} {q : Rat} (hv : IsQ H v q) (hq : q.den < 2 ^ 4096) :
  ∃ r H', runQ wk tab slow K (d + 5) 30 [v] H = some (r, H') /\ Frame H H' /\ IsNat H' r q.den := by
 obtain ⟨b, s, t, rfl, h1, h2⟩ := hv
 have hp := q.den_pos
 obtain ⟨o, H1, g1, f1, no⟩ := one_ok K (by omega) (d + 1) H
 obtain ⟨r, H2, g2, f2, n2⟩ := add_ok K d H1 (h2.fr f1) no hK (by omega) one_big
 rw [if_pos (show q.den - 1 + 1 < 2 ^ 4096 by omega)] at g2 n2
 rw [show q.den - 1 + 1 = q.den by omega] at n2
 obtain ⟨sl, rfl, i2⟩ := n2
 refine ⟨_, H2, ?_, Frame.trans f1 f2, sl, rfl, i2⟩
 show f30 slow K (runQ wk tab slow K (d + 4)) _ H = _
 have e0 : ((0 : Int) != 0) = false := rfl
 simp only [f30, z_bbox, z_lfld, z_lld3n, g1, z_call, g2, z_ext0, z_ext1, z_bst1, z_neq, e0, z_cond, cond_false, z_lload1, z_resc1]
def textQ (q : Rat) : List UInt8 := if q.den = 1 then textZ q.num else textZ q.num ++ (47 :: dec q.den)
end Go.Sh.Of

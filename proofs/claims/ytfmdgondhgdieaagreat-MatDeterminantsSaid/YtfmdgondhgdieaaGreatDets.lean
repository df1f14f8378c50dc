/- MatDeterminants: the walk. -/
import Derived.Test.YtfmdgondhgdieaaGreatRInv
import Derived.Test.YtfmdgondhgdieaaGreatRWide
import Derived.Test.YtfmdgondhgdieaaGreatReadL
set_option linter.unusedVariables false
set_option linter.unusedSimpArgs false
namespace Go.Sh.Of
open Go Go.Sh
theorem invR_good {R : List (List Int)} (hg : Good R) (hs : sqE R = 0) (hu : (detR R).natAbs = 1) : Good (invR R) := by
 have hE : invE R = 0 := by unfold invE; rw [if_neg (fun h => h hs), if_pos hu]
 unfold invR
 rw [if_pos hE]
 exact Good.ofE hg.rows hg.rows id fun i j hi hj => by
  rw [Int.natAbs_mul, hu, Nat.one_mul]
  exact (adjE_small hs hi hj).2
theorem text_none (K : Nat) (hK : 3000000 < K) (d : Nat) (H : Heap) {w : SV} (hv : IsMat H (.agg [w]) []) : ∃ r H', runQ wk tab slow K (d + 20) 15 [.agg [w]] H = some (r, H') /\ Frame H H' /\ ∀ k, slow.len r k = k (i64 0) := by
 obtain ⟨r, H', h1, f1, t1⟩ := mtext_ok K (by omega) (d + 16) H hv (fun r hr => by cases hr) (by simp)
 exact ⟨r, H', h1, f1, fun k => by have := IsRowsC.len t1 k; simpa [textRows] using this⟩
structure DetH (H : Heap) (x d1 d2 iw kw : SV) (lo : Nat) (R : List (List Int)) : Prop where
 x : IsRRows lo H x R
 d : IsInt H (.agg [d1, d2]) (if sqE R = 0 then detR R else 0)
 i : IsMat H (.agg [iw]) (invR R)
 k : IsMat H (.agg [kw]) (if sqE R = 0 then adjR R else [])
theorem DetH.fr {H H' : Heap} {x d1 d2 iw kw : SV} {lo : Nat} {R : List (List Int)} (h : DetH H x d1 d2 iw kw lo R) (f : Frame H H') : DetH H' x d1 d2 iw kw lo R := ⟨h.x.fr f, h.d.fr f, h.i.fr f, h.k.fr f⟩
theorem dets_adj (K : Nat) (hK : 3000000 < K) (d : Nat) (H : Heap) {x d1 d2 iw kw : SV} {lo : Nat} {R : List (List Int)} (hg : Good R) (hs : sqE R = 0) (h : DetH H x d1 d2 iw kw lo R) :
  ∃ v H1 H2, runQ wk tab slow K (d + 20) 21 [x] H = some (v, H1) /\ runQ wk tab slow K (d + 20) 20 [.agg [kw], .int .i64 0, v, .int .i64 0] H1 = some (.bool true, H2) /\ Frame H H2 := by
 obtain ⟨v, ws, H1, h1, f1, w1⟩ := radj_ok K hK (d + 12) H h.x hg hs
 have hk := (h.fr f1).k
 rw [if_pos hs] at hk
 have gA := adjR_good hg hs
 obtain ⟨H2, h2, f2⟩ := same_mat K hK (d + 12) H1 hk w1.rrows gA.bigOk (by have := gA.rows; omega)
 exact ⟨v, H1, H2, h1, h2, Frame.trans f1 f2⟩
theorem dets_j15 (K : Nat) (hK : 3000000 < K) (d : Nat) (H : Heap) {x d1 d2 iw kw b s : SV} {lo : Nat} {R : List (List Int)} (hg : Good R) (hs : sqE R = 0) (h : DetH H x d1 d2 iw kw lo R) (hw : IsRZ H (.agg [b, s]) (detR R)) :
  ∃ H', f3_j15 slow K (runQ wk tab slow K (d + 20)) x (.box [iw]) (.int .i64 (invE R)) (.box [kw]) (.int .i64 0) (.box [b, s]) (.bool (!decide ((detR R).natAbs = 1))) H = some (.bool true, H') := by
 by_cases hu : (detR R).natAbs = 1
 ·have hE : invE R = 0 := by unfold invE; rw [if_neg (fun h => h hs), if_pos hu]
  obtain ⟨v, H1, h1, f1, n1⟩ := rinv_ok K hK (d + 11) H h.x hg hs hw hu
  rw [show d + 11 + 9 = d + 20 from rfl] at h1
  have gI := invR_good hg hs hu
  obtain ⟨H2, h2, f2⟩ := same_mat K hK (d + 12) H1 (h.fr f1).i n1 gI.bigOk (by have := gI.rows; omega)
  rw [show d + 12 + 8 = d + 20 from rfl] at h2
  refine ⟨H2, ?_⟩
  rw [decide_eq_true hu, hE]
  simp only [f3_j15, Bool.not_true, z_cond, cond_false, z_lload1, z_lload2, h1, z_call, h2, z_rest_bool]
 ·obtain ⟨v, H1, H2, h1, h2, _⟩ := dets_adj K hK d H hg hs h
  refine ⟨H2, ?_⟩
  rw [decide_eq_false hu]
  simp only [f3_j15, Bool.not_false, z_cond, cond_true, z_lload1, h1, z_call, h2, z_rest_bool]
theorem dets_j12 (K : Nat) (hK : 3000000 < K) (d : Nat) (H : Heap) {x d1 d2 iw kw b s : SV} {lo : Nat} {R : List (List Int)} (hg : Good R) (hs : sqE R = 0) (h : DetH H x d1 d2 iw kw lo R) (hw : IsRZ H (.agg [b, s]) (detR R)) :
  ∃ H', f3_j12 slow K (runQ wk tab slow K (d + 20)) x (.box [iw]) (.int .i64 (invE R)) (.box [kw]) (.int .i64 0) (.box [b, s]) (.bool false) H = some (.bool true, H') := by
 have g6 : ∀ k, slow.gtr (i64 R.length) (.int .i64 6) k = k (.bool (decide (R.length > 6))) := fun k => n_gtr k .i64 _ 6
 simp only [f3_j12, z_cond, cond_false, h.x.len, g6]
 by_cases e : R.length > 6
 ·rw [decide_eq_true e]
  exact ⟨H, rfl⟩
 ·rw [decide_eq_false e]
  obtain ⟨v, H1, H2, h1, h2, f2⟩ := dets_adj K hK d H hg hs h
  have h3 := runit_ok K (d + 19) H2 (hw.fr f2)
  rw [show d + 19 + 1 = d + 20 from rfl] at h3
  obtain ⟨H3, h4⟩ := dets_j15 K hK d H2 hg hs (h.fr f2) (hw.fr f2)
  refine ⟨H3, ?_⟩
  simp only [cond_false, z_lload1, h1, z_call, h2, z_not, Bool.not_true, z_guard, z_lload2, h3]
  exact h4
theorem dets_j10 (K : Nat) (hK : 3000000 < K) (d : Nat) (H : Heap) {x d1 d2 iw kw b s : SV} {lo : Nat} {R : List (List Int)} (hg : Good R) (hs : sqE R = 0) (h : DetH H x d1 d2 iw kw lo R) (hw : IsRZ H (.agg [b, s]) (detR R)) :
  ∃ H', f3_j10 slow K (runQ wk tab slow K (d + 20)) x (.box [iw]) (.int .i64 (invE R)) (.box [kw]) (.int .i64 0) (.box [b, s]) (.bool false) H = some (.bool true, H') := by
 have h3 := runit_ok K (d + 19) H hw
 rw [show d + 19 + 1 = d + 20 from rfl] at h3
 simp only [f3_j10, z_cond, cond_false, z_lload2, h3, z_call, z_not]
 by_cases hu : (detR R).natAbs = 1
 ·rw [decide_eq_true hu]
  simp only [Bool.not_true, z_guard, cond_false]
  exact dets_j12 K hK d H hg hs h hw
 ·have hE : invE R = 50 := by unfold invE; rw [if_neg (fun h => h hs), if_neg hu]
  have hR : invR R = [] := by unfold invR; rw [hE]; rfl
  have hi := h.i
  rw [hR] at hi
  obtain ⟨r, H1, h4, f1, hl⟩ := text_none K hK d H hi
  have n50 : ((50 : Int) != 50) = false := rfl
  have n0 : ∀ k, slow.neq (i64 0) (.int .i64 0) k = k (.bool false) := fun k => by rw [z_neq]; rfl
  obtain ⟨H2, h5⟩ := dets_j12 K hK d H1 hg hs (h.fr f1) (hw.fr f1)
  refine ⟨H2, ?_⟩
  rw [hE] at h5 ⊢
  rw [decide_eq_false hu]
  simp only [Bool.not_false, z_guard, cond_true, z_neq, n50, cond_false, z_lload1, h4, z_call, hl, n0]
  exact h5
theorem dets_j6 (K : Nat) (hK : 3000000 < K) (d : Nat) (H : Heap) {x d1 d2 iw kw : SV} {lo : Nat} {R : List (List Int)} (hg : Good R) (h : DetH H x d1 d2 iw kw lo R) :
  ∃ H', f3_j6 slow K (runQ wk tab slow K (d + 20)) x (.box [d1, d2]) (.int .i64 (sqE R)) (.box [iw]) (.int .i64 (invE R)) (.box [kw]) (.int .i64 (sqE R)) (.int .i64 (sqE R)) H = some (.bool true, H') := by
 by_cases hs : sqE R = 0
 ·have b : ((0 : Int) != 0) = false := rfl
  have hsm := detR_small2 hg hs
  obtain ⟨hwide, hsq⟩ := sq_of hs
  obtain ⟨y, H1, h1, f1, n1⟩ := rdet_ok K hK (d + 13) H h.x hg hsq (wide_bd hwide)
  rw [show d + 13 + 7 = d + 20 from rfl] at h1
  rw [<- detR_det' hsq] at n1
  have n1' := n1
  obtain ⟨s, rfl, _⟩ := n1
  have hd := (h.fr f1).d
  rw [if_pos hs] at hd
  obtain ⟨H2, h2, f2⟩ := ztext_ok K (by omega) (d + 17) H1 hd hsm
  rw [show d + 17 + 3 = d + 20 from rfl] at h2
  obtain ⟨H3, h3, f3⟩ := rztext_ok K (d + 14) H2 (n1'.fr f2) hK (by have := dec_bits hsm; omega) (by have := rbig hsm; omega)
  rw [show d + 14 + 6 = d + 20 from rfl] at h3
  have f23 := Frame.trans f2 f3
  obtain ⟨H4, h4⟩ := dets_j10 K hK d H3 hg hs (h.fr (Frame.trans f1 f23)) (n1'.fr f23)
  have ns : ∀ t : List UInt8, ∀ k, slow.neq (.str t) (.str t) k = k (.bool false) := fun t k => by
   show k (.bool (!(t == t))) = _
   rw [beq_self_eq_true]
   rfl
  refine ⟨H4, ?_⟩
  rw [hs]
  simp only [f3_j6, z_neq, b, z_cond, cond_false, h1, z_call, z_bst2, z_guard, z_lload2, h2, h3, ns]
  exact h4
 ·have b : (sqE R != 0) = true := by simp [hs]
  have hE : invE R = sqE R := by unfold invE; rw [if_pos hs]
  have hR : invR R = [] := by unfold invR; rw [if_neg (by rw [hE]; exact hs)]
  have hd := h.d
  rw [if_neg hs] at hd
  have h1 := zsign_ok K (d + 17) H hd (by decide +kernel)
  rw [show d + 17 + 3 = d + 20 from rfl] at h1
  have hi := h.i
  rw [hR] at hi
  obtain ⟨r, H1, h2, f1, hl⟩ := text_none K hK d H hi
  have hk := (h.fr f1).k
  rw [if_neg hs] at hk
  obtain ⟨r', H2, h3, f2, hl'⟩ := text_none K hK d H1 hk
  have s0 : signZ 0 = 0 := rfl
  have e0 : ∀ k, slow.eql (i64 0) (.int .i64 0) k = k (.bool true) := fun k => by rw [z_eql]; rfl
  refine ⟨H2, ?_⟩
  rw [hE]
  rw [s0] at h1
  simp only [f3_j6, z_neq, b, z_cond, cond_true, z_eql, beq_self_eq_true, z_guard, z_lload2, h1, z_call, z_lload1, h2, hl, e0, h3, hl', f3_j8, z_rest_bool]
theorem dets_j4 (K : Nat) (hK : 3000000 < K) (d : Nat) (H : Heap) {x d1 d2 iw kw : SV} {lo : Nat} {R : List (List Int)} (hg : Good R) (h : DetH H x d1 d2 iw kw lo R) :
  ∃ H', f3_j4 slow K (runQ wk tab slow K (d + 20)) x (.box [d1, d2]) (.int .i64 (sqE R)) (.box [iw]) (.int .i64 (invE R)) (.box [kw]) (.int .i64 (sqE R)) (.bool (wideB R)) (.bool false) H = some (.bool true, H') := by
 have hcol := rcols_ok K (d + 19) H h.x
 rw [show d + 19 + 1 = d + 20 from rfl] at hcol
 obtain ⟨H', h1⟩ := dets_j6 K hK d H hg h
 refine ⟨H', ?_⟩
 simp only [f3_j4, z_cond, cond_false, h.x.len, hcol, z_call, n_neq]
 by_cases e : R.length = colsOf R
 ·rw [decide_eq_false fun h => h e]
  cases hw : wideB R with
  | true =>
   have hs : sqE R = 3 := by unfold sqE; rw [if_neg (fun h => h e), if_pos hw]
   rw [hs] at h1 ⊢
   simp only [cond_false, cond_true, f3_j17]
   exact h1
  | false =>
   have hs : sqE R = 0 := by unfold sqE; rw [if_neg (fun h => h e), hw]; rfl
   rw [hs] at h1 ⊢
   simp only [cond_false, f3_j17]
   exact h1
 ·have hs : sqE R = 5 := by unfold sqE; rw [if_pos e]
  rw [decide_eq_true (show R.length ≠ colsOf R from e)]
  rw [hs] at h1 ⊢
  simp only [cond_true]
  exact h1
theorem dets_ok (K : Nat) (hK : 3000000 < K) (d : Nat) (H : Heap) {va : SV} {T : List (List (List UInt8))} (ha : IsTexts H va T) (ca : Cutable va) (hT : TextsOk K T) :
  ∃ H', runQ wk tab slow K (d + 21) 3 [va] H = some (.bool true, H') := by
 have hw' : ∀ H, runQ wk tab slow K (d + 20) 4 [] H = some (.bool true, H) := fun H => rfl
 show ∃ H', f3 slow K (runQ wk tab slow K (d + 20)) va H = _
 obtain ⟨u, H1, h1, ho, f1, _, _⟩ := z_lay1 (H := H) (lo := H.size) (Nat.le_refl _) (.slice nilSl) (IsRowsC.flat ha)
 have ha1 : IsTexts H1 va T := IsRowsC.fr ha f1
 simp only [f3, hw', z_call, z_not, Bool.not_true, z_guard, cond_false, h1]
 rcases beyond_ok K (by omega) (d + 19) H1 (Ts := [T]) ho.arr (by simp) rfl (fun i u T' hu hT => by
  match i with
  | 0 => simp at hu hT; subst hu hT; exact ha1
  | n + 1 => simp at hu) with h2 | ⟨hfew, h2⟩
 ·rw [show d + 19 + 1 = d + 20 from rfl] at h2
  refine ⟨H1, ?_⟩
  simp only [h2, z_call, f3_j1, z_cond, cond_true, hw', z_rest_bool]
 ·rw [show d + 19 + 1 = d + 20 from rfl] at h2
  obtain ⟨w, x, H2, h3, f2, m2, x2⟩ := read_ok K hK (d + 8) H1 ha1 ca (hfew T (by simp)) hT
  rw [show d + 8 + 12 = d + 20 from rfl] at h3
  have hg := parseM_good T
  generalize parseM T = R at *
  obtain ⟨y, H3, h4, f3, n3⟩ := det_ok K (by omega) (d + 11) H2 m2 hg hg.big hg.rows hg.c16r hg.c16
  rw [show d + 11 + 9 = d + 20 from rfl] at h4
  obtain ⟨i, H4, h5, f4, n4⟩ := inv_ok K (by omega) (d + 8) H3 (m2.fr f3) hg fun hs => detR_small2 hg hs
  rw [show d + 8 + 12 = d + 20 from rfl] at h5
  obtain ⟨k, H5, h6, f5, n5⟩ := adj_ok K (by omega) (d + 9) H4 (m2.fr (Frame.trans f3 f4)) hg
  rw [show d + 9 + 11 = d + 20 from rfl] at h6
  have f35 := Frame.trans f3 (Frame.trans f4 f5)
  obtain ⟨H6, h7, f6⟩ := rank_ok K (by omega) (d + 11) H5 (m2.fr f35) hg
  rw [show d + 11 + 9 = d + 20 from rfl] at h7
  have f36 := Frame.trans f35 f6
  obtain ⟨H7, h8, f7⟩ := rwide_ok K (by omega) (d + 17) H6 (x2.fr f36) hg
  rw [show d + 17 + 3 = d + 20 from rfl] at h8
  have f37 := Frame.trans f36 f7
  have n3' := n3
  obtain ⟨ys, rfl, _, _⟩ := n3
  have n4' := n4
  obtain ⟨iw, rfl, _⟩ := n4
  have n5' := n5
  obtain ⟨kw, rfl, _⟩ := n5
  have hD : DetH H7 x (.bool (decide ((if sqE R = 0 then detR R else 0) < 0))) ys iw kw H1.size R := ⟨x2.fr f37, n3'.fr (Frame.trans f4 (Frame.trans f5 (Frame.trans f6 f7))), n4'.fr (Frame.trans f5 (Frame.trans f6 f7)), n5'.fr (Frame.trans f6 f7)⟩
  simp only [h2, z_call, f3_j1, z_cond, cond_false, h3, z_ext0, z_ext1, z_ext2, z_bst1, z_not, Bool.not_true, z_lload1, h4, z_bst2, h5, h6, h7, h8]
  cases hw : wideB R with
  | true =>
   have e1 : rankE R = 3 := by unfold rankE; rw [if_pos hw]
   have e2 : rankV R = 0 := by unfold rankV; rw [if_pos hw]
   obtain ⟨H8, h9⟩ := dets_j4 K hK d H7 hg hD
   rw [hw] at h9
   have n0 : ∀ k, slow.neq (i64 0) (.int .i64 0) k = k (.bool false) := fun k => by rw [z_neq]; rfl
   have q3 : ((3 : Int) == 3) = true := rfl
   refine ⟨H8, ?_⟩
   rw [e1, e2]
   simp only [z_eql, q3, z_bneq, beq_self_eq_true, Bool.not_true, z_guard, cond_false, cond_true, n0, z_not]
   exact h9
  | false =>
   have e1 : rankE R = 0 := by unfold rankE; rw [hw]; rfl
   obtain ⟨H8, h10, f8⟩ := rrank_ok K hK (d + 13) H7 hD.x hg hw
   rw [show d + 13 + 7 = d + 20 from rfl] at h10
   obtain ⟨H9, h9⟩ := dets_j4 K hK d H8 hg (hD.fr f8)
   rw [hw] at h9
   have q3 : ((0 : Int) == 3) = false := rfl
   have q0 : ∀ k, slow.neq (.int .i64 0) (.int .i64 0) k = k (.bool false) := fun k => by rw [z_neq]; rfl
   have qr : ∀ k, slow.neq (i64 (rankV R)) (i64 (rankV R)) k = k (.bool false) := fun k => by rw [z_neq, bne_self_eq_false]
   refine ⟨H9, ?_⟩
   rw [e1]
   simp only [z_eql, q3, z_bneq, beq_self_eq_true, Bool.not_true, z_guard, cond_false, z_not, Bool.not_false, cond_true, q0, h10, z_call, qr]
   exact h9
end Go.Sh.Of

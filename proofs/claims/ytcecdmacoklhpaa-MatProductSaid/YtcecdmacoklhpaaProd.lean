/- MatProduct: what is done to two matrices. MatProduct: the walk. -/
import Derived.Test.YtcecdmacoklhpaaSwapsB
import Derived.Test.YtcecdmacoklhpaaAdjM
set_option linter.unusedVariables false
set_option linter.unusedSimpArgs false
namespace Go.Sh.Of
open Go Go.Sh

theorem sumTo_sumZ (F : Nat → Int) : ∀ n : Nat, sumTo F n = sumZ n F
  | 0 => rfl
  | n + 1 => by
    show sumTo F n + F n = sumZ n F + F n
    rw [sumTo_sumZ F n]
theorem dotE_mulX {A B : List (List Int)} (i j : Nat) : dotE A B i j = mulX (colsOf A) (ent A) (ent B) i j := by
  unfold dotE
  rw [dot_sum, sumTo_sumZ]
  rfl
theorem matOfE_mem {E : Nat → Nat → Int} {n k : Nat} {r : List Int} {z : Int} (hr : r ∈ matOfE E n k) (hz : z ∈ r) : ∃ i j, i < n ∧ j < k ∧ z = E i j := by
  obtain ⟨i, hi, rfl⟩ := List.mem_map.1 hr
  obtain ⟨j, hj, rfl⟩ := List.mem_map.1 hz
  exact ⟨i, j, List.mem_range.1 hi, List.mem_range.1 hj, rfl⟩
theorem matOfE_mem2 {E : Nat → Nat → Int} {n k i j : Nat} (hi : i < n) (hj : j < k) : ∃ r, r ∈ matOfE E n k ∧ E i j ∈ r :=
  ⟨_, List.mem_map.2 ⟨i, List.mem_range.2 hi, rfl⟩, List.mem_map.2 ⟨j, List.mem_range.2 hj, rfl⟩⟩
theorem tr_size {R : List (List Int)} (hg : Good R) : (trM R).length = colsOf R ∧ colsOf (trM R) = R.length := by
  refine ⟨matOfE_len _ _ _, ?_⟩
  by_cases h : R = []
  · subst h; rfl
  · exact colsOf_matOfE (by have := (hg.cols h).1; omega)
theorem wide_tr {R : List (List Int)} (hg : Good R) : wideB (trM R) = wideB R := by
  obtain ⟨h1, h2⟩ := tr_size hg
  have hw : wMat 0 (trM R) = wMat 0 R := by
    apply Nat.le_antisymm
    · refine wMat_lub _ _ _ (Nat.zero_le _) fun r hr z hz => ?_
      obtain ⟨i, j, hi, hj, rfl⟩ := matOfE_mem hr hz
      obtain ⟨r', hr', hz'⟩ := matOfE_mem2 (E := ent R) hj hi
      rw [hg.self] at hr'
      exact (wMat_ge R 0).2 r' hr' _ hz'
    · refine wMat_lub _ _ _ (Nat.zero_le _) fun r hr z hz => ?_
      rw [← hg.self] at hr
      obtain ⟨i, j, hi, hj, rfl⟩ := matOfE_mem hr hz
      obtain ⟨r', hr', hz'⟩ := matOfE_mem2 (E := fun i j => ent R j i) hj hi
      exact (wMat_ge (trM R) 0).2 r' hr' _ hz'
  unfold wideB
  rw [h1, h2, hw, Nat.min_comm]
theorem rank_is {R : List (List Int)} (h : wideB R = false) : RankIs R.length (colsOf R) (ent R) (rankV R) := by
  unfold rankV
  rw [h, if_neg (by decide)]
  exact bare_rank _ _ _
theorem rank_tr {R : List (List Int)} (hg : Good R) : rankV (trM R) = rankV R ∧ rankE (trM R) = rankE R := by
  have hw := wide_tr hg
  refine ⟨?_, by unfold rankE; rw [hw]⟩
  cases hb : wideB R with
  | true =>
    unfold rankV
    rw [hw, hb]
    rfl
  | false =>
    obtain ⟨h1, h2⟩ := tr_size hg
    have a := rank_is (hw.trans hb)
    rw [h1, h2] at a
    have b := (rank_is hb).tr
    refine a.uniq (b.congr fun i k hi hk => ?_)
    exact (ent_matOfE (E := fun i j => ent R j i) hi hk).symm
theorem run_fin {rows cols : Nat} {A : Mx} : ∀ (d j : Nat) (s : BSt), j + d = cols → BRk rows cols A j s → (brun rows d j s).r ≤ rows ∧ (brun rows d j s).last ≠ 0
  | 0, j, s, hj, h => by
    obtain ⟨B, c, h1, _⟩ := h.ex
    exact ⟨h1.rr, h1.nz⟩
  | d + 1, j, s, hj, h => by
    show (if s.r < rows then brun rows d (j + 1) (bcol rows j s) else s).r ≤ rows ∧ (if s.r < rows then brun rows d (j + 1) (bcol rows j s) else s).last ≠ 0
    by_cases hr : s.r < rows
    · rw [if_pos hr]
      exact run_fin d (j + 1) _ (by omega) (h.step hr (by omega))
    · rw [if_neg hr]
      obtain ⟨B, c, h1, _⟩ := h.ex
      exact ⟨h1.rr, h1.nz⟩
theorem rank_det {R : List (List Int)} (h : sqE R = 0) : rankV R = R.length ↔ detR R ≠ 0 := by
  obtain ⟨hw, hsq⟩ := sq_of h
  obtain ⟨h1, h2⟩ := run_fin (rows := R.length) (cols := colsOf R) (A := ent R) (colsOf R) 0 (bstart (ent R)) (by omega) ⟨ent R, fun _ => 0, BInv.start _ _ _, SameR.rfl' _ _, fun i k _ _ hk _ => absurd hk (Nat.not_lt_zero k)⟩
  unfold rankV detR bval
  rw [hw, if_neg (by decide)]
  constructor
  · intro e
    rw [if_neg (by omega)]
    split <;> omega
  · intro e
    by_cases hr : (brun R.length (colsOf R) 0 (bstart (ent R))).r < R.length
    · rw [if_pos hr] at e
      exact absurd rfl e
    · omega
theorem adj_dot {R : List (List Int)} (hg : Good R) (h : sqE R = 0) {i j : Nat} (hi : i < R.length) (hj : j < R.length) : dotE R (adjR R) i j = (if i = j then detR R else 0) ∧ dotE (adjR R) R i j = if i = j then detR R else 0 := by
  obtain ⟨hw, hsq⟩ := sq_of h
  obtain ⟨n, hn⟩ : ∃ n, R.length = n + 1 := ⟨R.length - 1, by omega⟩
  have hc : colsOf (adjR R) = R.length := colsOf_matOfE (by omega)
  have he : ∀ x y, x < n + 1 → y < n + 1 → ent (adjR R) x y = adjM n (ent R) x y := fun x y hx hy => by
    rw [show ent (adjR R) x y = adjE R x y from ent_matOfE (by omega) (by omega)]
    unfold adjE adjM
    rw [show R.length - 1 = n by omega]
  rw [dotE_mulX, dotE_mulX, hc, ← hsq, detR_det hsq, hn]
  constructor
  · rw [← mul_adj (ent R) (by omega) (by omega)]
    exact sumZ_congr fun t ht => by rw [he t j ht (by omega)]
  · rw [← adj_mul (ent R) (by omega) (by omega)]
    exact sumZ_congr fun t ht => by rw [he i t (by omega) ht]
theorem invR_good {R : List (List Int)} (hg : Good R) : Good (invR R) := by
  unfold invR
  by_cases h : invE R = 0
  · rw [if_pos h]
    have h0 : sqE R = 0 := Decidable.byContradiction fun h2 => by
      unfold invE at h
      rw [if_pos h2] at h
      exact h2 h
    have h1 : (detR R).natAbs = 1 := Decidable.byContradiction fun h2 => by
      unfold invE at h
      rw [if_neg (fun x => x h0), if_neg h2] at h
      cases h
    refine Good.ofE hg.rows hg.rows id fun i j hi hj => ?_
    rw [Int.natAbs_mul, h1, Nat.one_mul]
    exact (adjE_small h0 hi hj).2
  · rw [if_neg h]
    exact Good.nil
theorem inv_is {R : List (List Int)} (h : invE R = 0) : sqE R = 0 ∧ (detR R).natAbs = 1 ∧ invR R = matOfE (fun i j => detR R * adjE R i j) R.length R.length := by
  have h0 : sqE R = 0 := Decidable.byContradiction fun h2 => by
    unfold invE at h
    rw [if_pos h2] at h
    exact h2 h
  have h1 : (detR R).natAbs = 1 := Decidable.byContradiction fun h2 => by
    unfold invE at h
    rw [if_neg (fun x => x h0), if_neg h2] at h
    cases h
  exact ⟨h0, h1, by unfold invR; rw [if_pos h]⟩
theorem inv_mul {R : List (List Int)} (hg : Good R) (h : invE R = 0) : mulM R (invR R) = idRows R.length ∧ mulM (invR R) R = idRows R.length := by
  obtain ⟨h0, h1, h2⟩ := inv_is h
  obtain ⟨hw, hsq⟩ := sq_of h0
  have hdd : detR R * detR R = 1 := by
    rcases Int.natAbs_eq (detR R) with e | e <;> rw [h1] at e <;> rw [e] <;> rfl
  by_cases hz : R.length = 0
  · have : R = [] := List.eq_nil_of_length_eq_zero hz
    subst this
    have : invR [] = [] := by rw [h2]; rfl
    rw [this]
    exact ⟨rfl, rfl⟩
  have hc : colsOf (invR R) = R.length := by rw [h2]; exact colsOf_matOfE (by omega)
  have hc2 : colsOf (adjR R) = R.length := colsOf_matOfE (by omega)
  have hl : (invR R).length = R.length := by rw [h2]; exact matOfE_len _ _ _
  have he : ∀ x y, x < R.length → y < R.length → ent (invR R) x y = detR R * ent (adjR R) x y := fun x y hx hy => by
    rw [h2, ent_matOfE hx hy, show ent (adjR R) x y = adjE R x y from ent_matOfE hx hy]
  constructor
  · unfold mulM idRows
    rw [hc]
    refine matOfE_congr fun i j hi hj => ?_
    have e : dotE R (invR R) i j = detR R * dotE R (adjR R) i j := by
      rw [dotE_mulX, dotE_mulX]
      unfold mulX
      rw [← sumZ_mul]
      exact sumZ_congr fun t ht => by rw [he t j (by omega) hj, Int.mul_left_comm]
    rw [e, (adj_dot hg h0 hi hj).1]
    by_cases a : i = j
    · rw [if_pos a, if_pos a, hdd]
    · rw [if_neg a, if_neg a, Int.mul_zero]
  · unfold mulM idRows
    rw [hl, ← hsq]
    refine matOfE_congr fun i j hi hj => ?_
    have e : dotE (invR R) R i j = detR R * dotE (adjR R) R i j := by
      rw [dotE_mulX, dotE_mulX, hc, hc2]
      unfold mulX
      rw [← sumZ_mul]
      exact sumZ_congr fun t ht => by rw [he i t hi ht, Int.mul_assoc]
    rw [e, (adj_dot hg h0 hi hj).2]
    by_cases a : i = j
    · rw [if_pos a, if_pos a, hdd]
    · rw [if_neg a, if_neg a, Int.mul_zero]
theorem det_prod {R S : List (List Int)} (h1 : sqE R = 0) (h2 : sqE S = 0) (h : mulE R S = 0) : detR (mulM R S) = detR R * detR S := by
  obtain ⟨_, hr⟩ := sq_of h1
  obtain ⟨_, hs⟩ := sq_of h2
  have hm : colsOf R = S.length := Decidable.byContradiction fun hn => by
    unfold mulE at h
    rw [if_neg hn] at h
    cases h
  have hl : (mulM R S).length = R.length := matOfE_len _ _ _
  have hc : colsOf (mulM R S) = R.length := by
    by_cases hz : R.length = 0
    · have : R = [] := List.eq_nil_of_length_eq_zero hz
      subst this
      rfl
    · unfold mulM
      rw [colsOf_matOfE (by omega)]
      omega
  rw [detR_det (by rw [hl, hc]), detR_det hr, detR_det hs, hl, show S.length = R.length by omega, ← det_mul]
  refine det_congr fun i k hi hk => ?_
  rw [show ent (mulM R S) i k = dotE R S i k from ent_matOfE hi (by omega), dotE_mulX, ← hr]
theorem text_one : dec 1 = [49] := by simp [dec, decLE, chr]
theorem text_nought : textZ 0 = [48] := by decide
end Go.Sh.Of
namespace Go.Sh.Of
open Go Go.Sh

def prodM (A B : List (List Int)) : List (List Int) := if mulE A B = 0 then mulM A B else []
theorem prodM_good {A B : List (List Int)} (ha : Good A) (hb : Good B) : Good (prodM A B) := by
  unfold prodM
  split
  · rename_i h; exact mulM_good ha hb h
  · exact Good.nil
theorem mul_w (K : Nat) (hK : 1000000 < K) (d : Nat) (H : Heap) {w w' : SV} {A B : List (List Int)} (hv : IsMat H (.agg [w]) A) (hv' : IsMat H (.agg [w']) B) (ha : Good A) (hb : Good B) : ∃ u H', runQ wk tab slow K (d + 20) 19 [.agg [w], .agg [w']] H = some (.tuple [.agg [u], .int .i64 (mulE A B)], H') ∧ Frame H H' ∧ IsMat H' (.agg [u]) (prodM A B) := by
  obtain ⟨r, H1, h1, f1, hm⟩ := mmul_ok K (by omega) (d + 10) H hv hv' ha hb
  obtain ⟨u, rfl⟩ := hm.agg
  exact ⟨u, H1, h1, f1, hm.mat⟩
theorem trans_w (K : Nat) (hK : 1000000 < K) (d : Nat) (H : Heap) {w : SV} {A : List (List Int)} (hv : IsMat H (.agg [w]) A) (ha : Good A) : ∃ u H', runQ wk tab slow K (d + 20) 15 [.agg [w]] H = some (.agg [u], H') ∧ Frame H H' ∧ IsMat H' (.agg [u]) (trM A) := by
  obtain ⟨r, H1, h1, f1, hm⟩ := mtrans_ok K (by omega) (d + 17) H hv ha
  obtain ⟨u, rfl⟩ := hm.agg
  exact ⟨u, H1, h1, f1, hm.mat⟩
theorem same_w (K : Nat) (hK : 1000000 < K) (d : Nat) (H : Heap) {w w' : SV} {A B : List (List Int)} (hv : IsMat H (.agg [w]) A) (hv' : IsMat H (.agg [w']) B) (ha : Good A) (hb : Good B) : runQ wk tab slow K (d + 20) 10 [.agg [w], .agg [w']] H = some (.bool (decide (A = B)), H) :=
  msame_ok K (by omega) (d + 17) H hv hv' ha hb
theorem rank_w (K : Nat) (hK : 1000000 < K) (d : Nat) (H : Heap) {w : SV} {A : List (List Int)} (hv : IsMat H (.agg [w]) A) (ha : Good A) : ∃ H', runQ wk tab slow K (d + 20) 14 [.agg [w]] H = some (.tuple [i64 (rankV A), .int .i64 (rankE A)], H') ∧ Frame H H' :=
  rank_ok K (by omega) (d + 11) H hv ha
theorem IsMat.agg' {H : Heap} {r : SV} {A : List (List Int)} (h : IsMat H r A) : ∃ w, r = .agg [w] := by
  obtain ⟨w, e, _⟩ := h
  exact ⟨w, e⟩
theorem adj_w (K : Nat) (hK : 1000000 < K) (d : Nat) (H : Heap) {w : SV} {A : List (List Int)} (hv : IsMat H (.agg [w]) A) (ha : Good A) (h0 : sqE A = 0) : ∃ u H', runQ wk tab slow K (d + 20) 18 [.agg [w]] H = some (.tuple [.agg [u], .int .i64 0], H') ∧ Frame H H' ∧ IsMat H' (.agg [u]) (adjR A) := by
  obtain ⟨r, H1, h1, f1, hm⟩ := adj_ok K (by omega) (d + 9) H hv ha
  obtain ⟨u, rfl⟩ := hm.agg'
  rw [h0] at h1
  rw [if_pos h0] at hm
  exact ⟨u, H1, h1, f1, hm⟩
theorem inv_w (K : Nat) (hK : 1000000 < K) (d : Nat) (H : Heap) {w : SV} {A : List (List Int)} (hv : IsMat H (.agg [w]) A) (ha : Good A) : ∃ u H', runQ wk tab slow K (d + 20) 23 [.agg [w]] H = some (.tuple [.agg [u], .int .i64 (invE A)], H') ∧ Frame H H' ∧ IsMat H' (.agg [u]) (invR A) := by
  obtain ⟨r, H1, h1, f1, hm⟩ := inv_ok K (by omega) (d + 8) H hv ha fun h => detR_small ha h
  obtain ⟨u, rfl⟩ := hm.agg'
  exact ⟨u, H1, h1, f1, hm⟩
theorem ident_w (K : Nat) (hK : 1000000 < K) (d : Nat) (H : Heap) {n : Nat} (hn : n ≤ 16) : ∃ u H', runQ wk tab slow K (d + 20) 20 [i64 n] H = some (.tuple [.agg [u], .int .i64 0], H') ∧ Frame H H' ∧ IsMat H' (.agg [u]) (idRows n) := by
  obtain ⟨r, H1, h1, f1, hm⟩ := ident_ok K (by omega) (d + 14) H (n := n)
  have hno : ¬ ((n : Int) < 0 ∨ (n : Int) > 16) := by omega
  rw [if_neg hno] at h1 hm
  obtain ⟨u, rfl⟩ := hm.agg
  exact ⟨u, H1, h1, f1, hm.mat⟩
theorem sign_w (K : Nat) (d : Nat) (H : Heap) {x y : SV} {z : Int} (hv : IsInt H (.agg [x, y]) z) (hz : z.natAbs < 2 ^ 4096) : runQ wk tab slow K (d + 20) 16 [.agg [x, y]] H = some (.int .i64 (signZ z), H) :=
  zsign_ok K (d + 17) H hv hz
theorem text_w (K : Nat) (hK : 1000000 < K) (d : Nat) (H : Heap) {v : SV} {z : Int} (hv : IsInt H v z) (hz : z.natAbs < 2 ^ 4096) : ∃ H', runQ wk tab slow K (d + 20) 21 [v] H = some (.str (textZ z), H') ∧ Frame H H' :=
  ztext_ok K (by omega) (d + 17) H hv hz
/-- What comes last: the determinant of a product. -/
theorem prod_j23 (K : Nat) (hK : 1000000 < K) (d : Nat) (H : Heap) {wa wb dx dy : SV} {R S : List (List Int)} (ha : IsMat H (.agg [wa]) R) (hb : IsMat H (.agg [wb]) S) (hg : Good R) (hs : Good S) (h0 : sqE R = 0) (hd : IsInt H (.agg [dx, dy]) (detR R)) :
    ∃ H', f4_j23 slow K (runQ wk tab slow K (d + 20)) (.box [wa]) (.box [wb]) (.box [dx, dy]) H = some (.bool true, H') := by
  obtain ⟨qx, qy, H1, h1, f1, n1⟩ := det_w K hK d H hb hs
  obtain ⟨u, H2, h2, f2, m2⟩ := mul_w K hK d H1 (ha.fr f1) (hb.fr f1) hg hs
  have gp := prodM_good hg hs
  obtain ⟨rx, ry, H3, h3, f3, n3⟩ := det_w K hK d H2 m2 gp
  have f13 := Frame.trans f2 f3
  have stop : ∀ b1 b2, f4_j24 slow K (runQ wk tab slow K (d + 20)) (.box [dx, dy]) b1 b2 (.bool true) H3 = some (.bool true, H3) := fun _ _ => rfl
  simp only [f4_j23, z_lload1, h1, z_call, z_ext0, z_ext1, z_bst2, h2, z_bst1, h3, z_neq, z_guard]
  by_cases e1 : sqE S = 0
  · by_cases e2 : mulE R S = 0
    · by_cases e3 : sqE (prodM R S) = 0
      · have ep : prodM R S = mulM R S := if_pos e2
        rw [if_pos e1] at n1
        rw [if_pos e3] at n3
        have hdS := detR_small hs e1
        have hdR := detR_small hg h0
        have hdP := detR_small gp e3
        have ed : detR (prodM R S) = detR R * detR S := by rw [ep]; exact det_prod h0 e1 e2
        obtain ⟨o, H4, h4, f4, n4⟩ := zmul_ok K (by omega) (d + 15) H3 (hd.fr (Frame.trans f1 f13)) (n1.fr f13) hdR hdS
        rw [show d + 15 + 5 = d + 20 from rfl, errZ_yes (by rw [← ed]; exact hdP)] at h4
        rw [fitZ_yes (by rw [← ed]; exact hdP), ← ed] at n4
        have n4' := n4
        obtain ⟨o2, rfl, _, _⟩ := n4
        have h5 := zcmp_ok K (by omega) (d + 18) H4 n4' (n3.fr f4) hdP hdP
        have hc0 : cmpZ (detR (prodM R S)) (detR (prodM R S)) = 0 := cmpZ_zero.2 rfl
        rw [hc0, show d + 18 + 2 = d + 20 from rfl] at h5
        have b1 : (sqE S != 0) = false := by simp [e1]
        have b2 : (mulE R S != 0) = false := by simp [e2]
        have b3 : (sqE (prodM R S) != 0) = false := by simp [e3]
        refine ⟨H4, ?_⟩
        simp only [b1, b2, b3, cond_false, f4_j24, z_cond, z_lload2, h4, z_call, z_ext0, z_ext1, z_bst2, z_eql, beq_self_eq_true, z_guard, cond_true, h5, f4_j26, z_rest_bool]
      · have b1 : (sqE S != 0) = false := by simp [e1]
        have b2 : (mulE R S != 0) = false := by simp [e2]
        have b3 : (sqE (prodM R S) != 0) = true := by simp [e3]
        exact ⟨H3, by simp only [b1, b2, b3, cond_false, stop]⟩
    · have b1 : (sqE S != 0) = false := by simp [e1]
      have b2 : (mulE R S != 0) = true := by simp [e2]
      exact ⟨H3, by simp only [b1, b2, cond_false, cond_true, stop]⟩
  · have b1 : (sqE S != 0) = true := by simp [e1]
    exact ⟨H3, by simp only [b1, cond_true, stop]⟩
theorem abstext_w (K : Nat) (hK : 1000000 < K) (d : Nat) (H : Heap) {dx dy : SV} {z : Int} (hd : IsInt H (.agg [dx, dy]) z) (hz : z.natAbs < 2 ^ 4096) : ∃ x H', runQ wk tab slow K (d + 20) 24 [.agg [dx, dy]] H = some (x, H) ∧ runQ wk tab slow K (d + 20) 25 [x] H = some (.str (dec z.natAbs), H') ∧ Frame H H' := by
  obtain ⟨x, h1, n1⟩ := zabs_ok K (d + 19) H hd
  have h2 := dec_bits hz
  have h3 := dg_len hz
  clear hz
  obtain ⟨H', h4, f4⟩ := text_ok K (d + 18) H n1 (by omega) (by omega) (by omega) (by omega) (by omega)
  exact ⟨x, H', h1, h4, f4⟩
theorem prod_j20 (K : Nat) (hK : 1000000 < K) (d : Nat) (H : Heap) {wa wb w1 dx dy : SV} {R S : List (List Int)} (ha : IsMat H (.agg [wa]) R) (hb : IsMat H (.agg [wb]) S) (h1 : IsMat H (.agg [w1]) (idRows R.length)) (hg : Good R) (hs : Good S) (h0 : sqE R = 0) (hd : IsInt H (.agg [dx, dy]) (detR R)) :
    ∃ H', f4_j20 slow K (runQ wk tab slow K (d + 20)) (.box [wa]) (.box [wb]) (.box [dx, dy]) (.box [w1]) H = some (.bool true, H') := by
  have gi : Good (idRows R.length) := Good.ofE hg.rows hg.rows id fun i j _ _ => by
    show (if i = j then (1 : Int) else 0).natAbs < 2 ^ 4096
    split
    · exact one_big
    · exact Nat.two_pow_pos 4096
  obtain ⟨u, H1, e1, f1, m1⟩ := inv_w K hK d H ha hg
  have gI := invR_good hg
  have next : ∀ H2, Frame H H2 → ∃ H', f4_j23 slow K (runQ wk tab slow K (d + 20)) (.box [wa]) (.box [wb]) (.box [dx, dy]) H2 = some (.bool true, H') := fun H2 f2 => prod_j23 K hK d H2 (ha.fr f2) (hb.fr f2) hg hs h0 (hd.fr f2)
  have hdR := detR_small hg h0
  simp only [f4_j20, z_lload1, e1, z_call, z_ext0, z_ext1, z_bst1, z_eql, z_cond]
  by_cases hi : invE R = 0
  · obtain ⟨_, hu, _⟩ := inv_is hi
    obtain ⟨p1, p2⟩ := inv_mul hg hi
    obtain ⟨x, H2, e2, f2, m2⟩ := mul_w K hK d H1 (ha.fr f1) m1 hg gI
    obtain ⟨y, H3, e3, f3, m3⟩ := mul_w K hK d H2 (m1.fr f2) (ha.fr (Frame.trans f1 f2)) gI hg
    have F3 := Frame.trans f1 (Frame.trans f2 f3)
    obtain ⟨t, H4, e4, e5, f4⟩ := abstext_w K hK d H3 (hd.fr F3) hdR
    rw [hu, text_one] at e5
    have s1 := same_w K hK d H3 (m2.fr f3) (h1.fr F3) (prodM_good hg gI) gi
    have s2 := same_w K hK d H3 m3 (h1.fr F3) (prodM_good gI hg) gi
    obtain ⟨H5, e6⟩ := next H4 (Frame.trans F3 f4)
    have b0 : (invE R == 0) = true := by simp [hi]
    have bt : (!(([49] : List UInt8) == [49])) = false := rfl
    refine ⟨H5, ?_⟩
    simp only [b0, cond_true, e2, e3, z_call, z_ext0, z_ext1, z_bst1, z_lload1, z_lload2, z_guard]
    by_cases c1 : mulE R (invR R) = 0
    · have b1 : (mulE R (invR R) == 0) = true := by simp [c1]
      have d1 : prodM R (invR R) = idRows R.length := by unfold prodM; rw [if_pos c1, p1]
      rw [decide_eq_true d1] at s1
      by_cases c2 : mulE (invR R) R = 0
      · have b2 : (mulE (invR R) R == 0) = true := by simp [c2]
        have d2 : prodM (invR R) R = idRows R.length := by unfold prodM; rw [if_pos c2, p2]
        rw [decide_eq_true d2] at s2
        simp only [z_eql, b1, b2, cond_true, s1, s2, z_call, z_not, Bool.not_true, cond_false, e4, e5, z_sneq, bt, f4_j21, z_cond]
        exact e6
      · have b2 : (mulE (invR R) R == 0) = false := by simp [c2]
        simp only [z_eql, b1, b2, cond_true, s1, z_call, z_not, Bool.not_true, cond_false, e4, e5, z_sneq, bt, f4_j21, z_cond]
        exact e6
    · have b1 : (mulE R (invR R) == 0) = false := by simp [c1]
      by_cases c2 : mulE (invR R) R = 0
      · have b2 : (mulE (invR R) R == 0) = true := by simp [c2]
        have d2 : prodM (invR R) R = idRows R.length := by unfold prodM; rw [if_pos c2, p2]
        rw [decide_eq_true d2] at s2
        simp only [z_eql, b1, b2, cond_true, s2, z_call, z_not, Bool.not_true, cond_false, e4, e5, z_sneq, bt, f4_j21, z_cond]
        exact e6
      · have b2 : (mulE (invR R) R == 0) = false := by simp [c2]
        simp only [z_eql, b1, b2, cond_false, e4, z_call, e5, z_sneq, bt, f4_j21, z_cond]
        exact e6
  · have b0 : (invE R == 0) = false := by simp [hi]
    obtain ⟨H5, e6⟩ := next H1 f1
    refine ⟨H5, ?_⟩
    simp only [b0, cond_false]
    exact e6
/-! ### A matrix times its adjoint -/
theorem padj_in (K : Nat) (hK : 1000000 < K) (d : Nat) {H0 : Heap} {wa wb wp w1 dx dy : SV} {R S : List (List Int)} (hp : IsMat H0 (.agg [wp]) (mulM R (adjR R))) (hg : Good R) (hpg : Good (mulM R (adjR R))) (h0 : sqE R = 0) (hd : IsInt H0 (.agg [dx, dy]) (detR R)) {i : Nat} (hi : i < R.length) (k87 : SV → SV → SV → SV → SV → SV → SV → SV → Heap → Rs) : ∀ (m j fuel : Nat) (H : Heap), j + m = R.length → m < fuel → Frame H0 H →
    ∃ H', slow.loop11 (f4_l12 slow K (runQ wk tab slow K (d + 20)) k87) fuel (.box [wa]) (.box [wb]) (.box [dx, dy]) (i64 R.length) (.box [wp]) (.box [w1]) (i64 i) (i64 R.length) (i64 i) (i64 R.length) (i64 j) H = k87 (.box [wa]) (.box [wb]) (.box [dx, dy]) (i64 R.length) (.box [wp]) (.box [w1]) (i64 R.length) (i64 (i + 1)) H' ∧ Frame H0 H'
  | 0, j, fuel, H, hjm, hf, hfr => by
    obtain ⟨fuel, rfl⟩ : ∃ q, fuel = q + 1 := ⟨fuel - 1, by omega⟩
    have hlt : ¬ j < R.length := by omega
    have h16 := hg.rows
    refine ⟨H, ?_, hfr⟩
    rw [z_loop11]
    simp only [f4_l12, n_lss, decide_eq_false hlt, z_cond, cond_false, w_inc (show i < 1000000 by omega)]
  | m + 1, j, fuel, H, hjm, hf, hfr => by
    obtain ⟨fuel, rfl⟩ : ∃ q, fuel = q + 1 := ⟨fuel - 1, by omega⟩
    have hlt : j < R.length := by omega
    have h16 := hg.rows
    have hdR := detR_small hg h0
    have hc : colsOf (mulM R (adjR R)) = R.length := by
      unfold mulM
      rw [colsOf_matOfE (by omega)]
      exact colsOf_matOfE (by omega)
    have hl : (mulM R (adjR R)).length = R.length := matOfE_len _ _ _
    have he : ent (mulM R (adjR R)) i j = if i = j then detR R else 0 := by
      rw [show ent (mulM R (adjR R)) i j = dotE R (adjR R) i j from ent_matOfE hi (by rw [show colsOf (adjR R) = R.length from colsOf_matOfE (by omega)]; exact hlt)]
      exact (adj_dot hg h0 hi hlt).1
    -- an entry
    have at' : ∀ H, Frame H0 H → ∃ r, runQ wk tab slow K (d + 20) 22 [.agg [wp], i64 i, i64 j] H = some (r, H) ∧ IsInt H r (if i = j then detR R else 0) := fun H hf => by
      have := wat_ok K (d + 18) H (hp.fr hf) hpg (i := i) (j := j) (by omega) (by omega)
      rw [he] at this
      exact this
    have eq : ∀ k, slow.eql (i64 i) (i64 j) k = k (.bool (decide (i = j))) := fun k => n_eql k .i64 i j
    rw [z_loop11]
    simp only [f4_l12, n_lss, decide_eq_true hlt, z_cond, cond_true, eq]
    by_cases e : i = j
    · obtain ⟨H1, h1, f1⟩ := text_w K hK d H (hd.fr hfr) hdR
      obtain ⟨r, h2, n2⟩ := at' H1 (Frame.trans hfr f1)
      rw [if_pos e] at n2
      obtain ⟨H2, h3, f2⟩ := text_w K hK d H1 n2 hdR
      obtain ⟨H', h4, g4⟩ := padj_in K hK d (wa := wa) (wb := wb) (w1 := w1) (S := S) hp hg hpg h0 hd hi k87 m (j + 1) fuel H2 (by omega) (by omega) (Frame.trans hfr (Frame.trans f1 f2))
      refine ⟨H', ?_, g4⟩
      have bt : (!(textZ (detR R) == textZ (detR R))) = false := by simp
      simp only [decide_eq_true e, cond_true, z_lload2, z_lload1, h1, z_call, f4_j14, h2, h3, z_sneq, bt, z_cond, cond_false, w_inc (show j < 1000000 by omega)]
      exact h4
    · obtain ⟨r, h2, n2⟩ := at' H hfr
      rw [if_neg e] at n2
      obtain ⟨H2, h3, f2⟩ := text_w K hK d H n2 (Nat.two_pow_pos 4096)
      rw [text_nought] at h3
      obtain ⟨H', h4, g4⟩ := padj_in K hK d (wa := wa) (wb := wb) (w1 := w1) (S := S) hp hg hpg h0 hd hi k87 m (j + 1) fuel H2 (by omega) (by omega) (Frame.trans hfr f2)
      refine ⟨H', ?_, g4⟩
      have bt : (!(([48] : List UInt8) == [48])) = false := rfl
      simp only [decide_eq_false e, cond_false, f4_j14, z_lload1, h2, z_call, h3, z_sneq, bt, z_cond, w_inc (show j < 1000000 by omega)]
      exact h4
theorem padj_out (K : Nat) (hK : 1000000 < K) (d : Nat) {H0 : Heap} {wa wb wp w1 dx dy : SV} {R S : List (List Int)} (ha : IsMat H0 (.agg [wa]) R) (hb : IsMat H0 (.agg [wb]) S) (h1 : IsMat H0 (.agg [w1]) (idRows R.length)) (hs : Good S) (hp : IsMat H0 (.agg [wp]) (mulM R (adjR R))) (hg : Good R) (hpg : Good (mulM R (adjR R))) (h0 : sqE R = 0) (hd : IsInt H0 (.agg [dx, dy]) (detR R)) : ∀ (m i fuel : Nat) (H : Heap), i + m = R.length → m < fuel → Frame H0 H →
    ∃ H', slow.loop8 (f4_l10 slow K (runQ wk tab slow K (d + 20))) fuel (.box [wa]) (.box [wb]) (.box [dx, dy]) (i64 R.length) (.box [wp]) (.box [w1]) (i64 R.length) (i64 i) H = some (.bool true, H')
  | 0, i, fuel, H, him, hf, hfr => by
    obtain ⟨fuel, rfl⟩ : ∃ q, fuel = q + 1 := ⟨fuel - 1, by omega⟩
    have hlt : ¬ i < R.length := by omega
    obtain ⟨H', h2⟩ := prod_j20 K hK d H (ha.fr hfr) (hb.fr hfr) (h1.fr hfr) hg hs h0 (hd.fr hfr)
    refine ⟨H', ?_⟩
    rw [z_loop8]
    simp only [f4_l10, n_lss, decide_eq_false hlt, z_cond, cond_false]
    exact h2
  | m + 1, i, fuel, H, him, hf, hfr => by
    obtain ⟨fuel, rfl⟩ : ∃ q, fuel = q + 1 := ⟨fuel - 1, by omega⟩
    have hlt : i < R.length := by omega
    have h16 := hg.rows
    obtain ⟨H1, h2, f1⟩ := padj_in K hK d (wa := wa) (wb := wb) (w1 := w1) (S := S) hp hg hpg h0 hd hlt (slow.loop8 (f4_l10 slow K (runQ wk tab slow K (d + 20))) fuel) R.length 0 K H (by omega) (by omega) hfr
    obtain ⟨H', h3⟩ := padj_out K hK d ha hb h1 hs hp hg hpg h0 hd m (i + 1) fuel H1 (by omega) (by omega) f1
    refine ⟨H', ?_⟩
    rw [z_loop8]
    simp only [f4_l10, n_lss, decide_eq_true hlt, z_cond, cond_true]
    rw [show (SV.int .i64 0) = i64 0 from rfl, h2, h3]
theorem prod_j5 (K : Nat) (hK : 1000000 < K) (d : Nat) (H : Heap) {wa wb : SV} {R S : List (List Int)} (ha : IsMat H (.agg [wa]) R) (hb : IsMat H (.agg [wb]) S) (hg : Good R) (hs : Good S) :
    ∃ H', f4_j5 slow K (runQ wk tab slow K (d + 20)) (.box [wa]) (.box [wb]) (i64 (rankV R)) (.bool false) H = some (.bool true, H') := by
  obtain ⟨dx, dy, H1, h1, f1, n1⟩ := det_w K hK d H ha hg
  have h16 := hg.rows
  simp only [f4_j5, z_cond, cond_false, z_lload1, h1, z_call, z_ext0, z_ext1, z_bst2, z_neq, z_lload2]
  by_cases h0 : sqE R = 0
  · rw [if_pos h0] at n1
    have hdR := detR_small hg h0
    have hsz := msize_ok K (d + 19) H1 (ha.fr f1)
    have hsg := sign_w K d H1 n1 hdR
    obtain ⟨k, H2, h2, f2, m2⟩ := adj_w K hK d H1 (ha.fr f1) hg h0
    have gA := adjR_good hg h0
    obtain ⟨p, H3, h3, f3, m3⟩ := mul_w K hK d H2 (ha.fr (Frame.trans f1 f2)) m2 hg gA
    obtain ⟨o, H4, h4, f4, m4⟩ := ident_w K hK d H3 (n := R.length) h16
    have F := Frame.trans f2 (Frame.trans f3 f4)
    have b0 : (sqE R != 0) = false := by simp [h0]
    have hrk : decide (rankV R = R.length) = (signZ (detR R) != 0) := by
      have := rank_det h0
      unfold signZ
      by_cases hz : detR R = 0
      · rw [if_pos hz, decide_eq_false (fun e => (this.1 e) hz)]; rfl
      · rw [if_neg hz, decide_eq_true (this.2 hz)]
        split <;> rfl
    have ne : ∀ k, slow.eql (i64 (rankV R)) (i64 R.length) k = k (.bool (decide (rankV R = R.length))) := fun k => n_eql k .i64 _ _
    simp only [b0, cond_false, hsz, z_call, z_ext0, z_ext1, ne, hsg, z_neq, z_bneq, hrk, beq_self_eq_true, Bool.not_true, h2, z_bst1, z_lload1, h3, h4, bne_self_eq_false]
    by_cases c : mulE R (adjR R) = 0
    · have ep : prodM R (adjR R) = mulM R (adjR R) := if_pos c
      have gp := prodM_good hg gA
      rw [ep] at m3 gp
      obtain ⟨H5, h5⟩ := padj_out K hK d ((ha.fr f1).fr F) ((hb.fr f1).fr F) m4 hs (m3.fr f4) hg gp h0 (n1.fr F) R.length 0 K H4 (by omega) (by omega) (Fr.refl _ _)
      refine ⟨H5, ?_⟩
      simp only [c, z_eql, beq_self_eq_true, cond_true]
      exact h5
    · have b1 : (mulE R (adjR R) == 0) = false := by simp [c]
      obtain ⟨H5, h5⟩ := prod_j20 K hK d H4 ((ha.fr f1).fr F) ((hb.fr f1).fr F) m4 hg hs h0 (n1.fr F)
      refine ⟨H5, ?_⟩
      simp only [z_eql, b1, cond_false]
      exact h5
  · have b0 : (sqE R != 0) = true := by simp [h0]
    rw [if_neg h0] at n1
    have hsg := sign_w K d H1 n1 (Nat.two_pow_pos 4096)
    refine ⟨H1, ?_⟩
    simp only [b0, cond_true, hsg, z_call, z_eql, z_rest_bool]
    rfl
theorem prod_j3 (K : Nat) (hK : 1000000 < K) (d : Nat) (H : Heap) {wa wb : SV} {R S : List (List Int)} (ha : IsMat H (.agg [wa]) R) (hb : IsMat H (.agg [wb]) S) (hg : Good R) (hs : Good S) :
    ∃ H', f4_j3 slow K (runQ wk tab slow K (d + 20)) (.box [wa]) (.box [wb]) (.bool false) H = some (.bool true, H') := by
  obtain ⟨H1, h1, f1⟩ := rank_w K hK d H ha hg
  obtain ⟨t, H2, h2, f2, m2⟩ := trans_w K hK d H1 (ha.fr f1) hg
  obtain ⟨H3, h3, f3⟩ := rank_w K hK d H2 m2 (trM_good hg)
  obtain ⟨e1, e2⟩ := rank_tr hg
  rw [e1, e2] at h3
  obtain ⟨H4, h4⟩ := prod_j5 K hK d H3 (ha.fr (Frame.trans f1 (Frame.trans f2 f3))) (hb.fr (Frame.trans f1 (Frame.trans f2 f3))) hg hs
  refine ⟨H4, ?_⟩
  simp only [f4_j3, z_cond, cond_false, z_lload1, h1, z_call, z_ext0, z_ext1, h2, h3, z_neq, bne_self_eq_false, z_guard]
  exact h4
theorem prod_ok (K : Nat) (hK : 1000000 < K) (d : Nat) (H : Heap) {va vb : SV} {S T : List (List (List UInt8))} (hva : IsTexts H va S) (hvb : IsTexts H vb T) (la : TextsOk K S) (lb : TextsOk K T) :
    ∃ H', runQ wk tab slow K (d + 21) 4 [va, vb] H = some (.bool true, H') := by
  have hw : ∀ H, runQ wk tab slow K (d + 20) 5 [] H = some (.bool true, H) := fun H => rfl
  show ∃ H', f4 slow K (runQ wk tab slow K (d + 20)) va vb H = _
  obtain ⟨v, H1, h1, ho, f1, _, _⟩ := z_lay2 (H := H) (lo := H.size) (Nat.le_refl _) (.slice nilSl) (.slice nilSl) hva.flat hvb.flat
  simp only [f4, hw, z_call, z_not, Bool.not_true, z_guard, cond_false, h1]
  rcases beyond_ok K (by omega) (d + 19) H1 (Ts := [S, T]) ho.arr (by simp) rfl (fun i u T' hu hT => by
    match i with
    | 0 => simp at hu hT; subst hu hT; exact hva.fr f1
    | 1 => simp at hu hT; subst hu hT; exact hvb.fr f1
    | n + 2 => simp at hu) with h2 | ⟨hfew, h2⟩
  · refine ⟨H1, ?_⟩
    simp only [h2, z_call, f4_j1, z_cond, cond_true, hw, z_rest_bool]
  · have fa := hfew S (by simp)
    have fb := hfew T (by simp)
    obtain ⟨w1, H2, h3, f2, m1⟩ := lshaped_ok K hK (d + 11) H1 (hva.fr f1) la (by have := fa.1; omega)
    obtain ⟨w2, H3, h4, f3, m2⟩ := lshaped_ok K hK (d + 11) H2 (hvb.fr (Frame.trans f1 f2)) lb (by have := fb.1; omega)
    have stop : f4_j3 slow K (runQ wk tab slow K (d + 20)) (.box [w1]) (.box [w2]) (.bool true) H3 = some (.bool true, H3) := rfl
    simp only [h2, z_call, f4_j1, z_cond, cond_false, h3, h4, z_ext0, z_ext1, z_bst1, z_not, z_guard]
    cases b1 : parseE S == 0 with
    | false => exact ⟨H3, by simp only [Bool.not_false, cond_true, stop]⟩
    | true =>
      cases b2 : parseE T == 0 with
      | false => exact ⟨H3, by simp only [Bool.not_true, cond_false, Bool.not_false, stop]⟩
      | true =>
        obtain ⟨H5, h6⟩ := prod_j3 K hK d H3 (m1.fr f3) m2 (parseM_good S) (parseM_good T)
        exact ⟨H5, by simp only [Bool.not_true, cond_false, h6]⟩
end Go.Sh.Of

/- The program's inverse of a form and its level: contracts of rat.Make, rat.Num, dual.Inverse, dual.level. -/
import Derived.Test.YtcfheodfkmelmaaDualP
import Derived.Test.YtcfheodfkmelmaaAdjM
set_option linter.unusedVariables false
set_option linter.unusedSimpArgs false
set_option exponentiation.threshold 20000
namespace Go.Sh.Of
open Go Go.Sh
theorem qmake_run (K d : Nat) (H : Heap) (v w : SV) : runQ wk tab slow K (d + 7) 34 [v, w] H = f34 slow K (runQ wk tab slow K (d + 6)) v w H := Eq.trans rfl rfl
theorem mk_div {a b : Int} (hb : 0 < b) : mkRat a b.natAbs = (a : Rat) / (b : Rat) := by
 obtain ⟨n, rfl⟩ : ∃ n : Nat, b = n := ⟨b.toNat, by omega⟩
 rw [<- Rat.divInt_eq_div]
 rfl
theorem qmake_ok (K : Nat) (hK : 200000 < K) (d : Nat) (H : Heap) {v w : SV} {a b : Int} (hv : IsInt H v a) (hw : IsInt H w b) (hb : 0 < b) (ha' : a.natAbs < 2 ^ 4096) (hb' : b.natAbs < 2 ^ 4096) :
  ∃ r H', runQ wk tab slow K (d + 7) 34 [v, w] H = some (.tuple [r, .int .i64 0], H') /\ Frame H H' /\ IsQ H' r ((a : Rat) / (b : Rat)) := by
 have hs := zsign_ok K (d + 3) H hw hb'
 rw [show d + 3 + 3 = d + 6 from rfl, show signZ b = 1 by unfold signZ; rw [if_neg (by omega), if_neg (by omega)]] at hs
 obtain ⟨n, h1, n1⟩ := zabs_ok K (d + 5) H hw
 rw [show d + 5 + 1 = d + 6 from rfl] at h1
 obtain ⟨r, H1, h2, fr1, ir⟩ := low_ok K hK d H hv n1 (Int.natAbs_pos.2 (by omega)) ha' hb'
 rw [mk_div hb] at ir
 obtain ⟨x, rfl, _⟩ := id hv
 obtain ⟨y, rfl, _⟩ := id hw
 obtain ⟨p, q, t, rfl, _⟩ := id ir
 refine ⟨_, H1, ?_, fr1, ir⟩
 rw [qmake_run]
 have e1 : ((1 : Int) == 0) = false := rfl
 have e2 : decide ((1 : Int) < 0) = false := rfl
 simp only [f34, z_bbox, z_lload2, hs, z_call, z_eql, e1, z_cond, cond_false, z_lss, e2, f34_j2, h1, h2, z_bst3, z_resc3]
theorem qnum_run (K d : Nat) (H : Heap) (v : SV) : runQ wk tab slow K (d + 1) 20 [v] H = f20 slow K (runQ wk tab slow K d) v H := Eq.trans rfl rfl
theorem qnum_ok (K d : Nat) (H : Heap) {v : SV} {q : Rat} (hv : IsQ H v q) : ∃ r, runQ wk tab slow K (d + 1) 20 [v] H = some (r, H) /\ IsInt H r q.num := by
 obtain ⟨b, s, t, rfl, i1, _⟩ := hv
 refine ⟨_, ?_, i1⟩
 rw [qnum_run]
 simp only [f20, z_bbox, z_lfld, z_lld3i, z_bst2, z_resc2]
theorem z_mkfn1 {f : Nat} {x : SV} (hx : x.good = true) (k : K1) : slow.mkfn f 1 [x] k = k (.fn f [x] []) := by
 show (opP (.mkfn f 1) [x]).bind k = _
 simp [opP, hx]
theorem y_callv1 (C : CallC) (f : Nat) (x : SV) (H : Heap) (k : KH) : slow.callv C [.fn f [x] []] H k = slow.call (C f [x] H) k := Eq.trans rfl rfl
theorem IsQ.good {H : Heap} {v : SV} {q : Rat} (h : IsQ H v q) : v.good = true := by
 obtain ⟨b, s, t, he, ⟨s1, e1, ⟨s2, rfl, _⟩, _⟩, t1, e2, ⟨t2, rfl, _⟩, _⟩ := h
 cases he
 cases e1
 cases e2
 rfl
theorem GRow.nil {α : Type} {N : Nat} {P : Heap -> SV -> α -> Prop} (lo : Nat) (H : Heap) (f : Nat -> α) : GRow N P lo H (.slice nilSl) f 0 := ⟨[], OwnS.nil N lo H, rfl, fun e he => (by cases he), fun t e he => (by simp at he)⟩
theorem GRow.pushE {α : Type} {N : Nat} {P : Heap -> SV -> α -> Prop} (hP : PCell N P) (hN : N <= 1000) {lo : Nat} {H : Heap} {w : SV} {f : Nat -> α} {j : Nat} (h : GRow N P lo H w f j) (hl : lo <= H.size) (zero : List SV) (hz : zero.length = N) {e : List SV} (he : P H (.agg e) (f j)) {by_ : Nat} (hr : roomy (j + 1) by_ = true) :
  ∃ w' H', (∀ k, slow.hbuild N zero [(0, N)] [.agg e] H (fun u H1 => slow.append N by_ w u H1 k) = k w' H') /\ GRow N P lo H' w' f (j + 1) /\ Fr lo H H' /\ (∀ r, ¬ inRow w r -> r < H.size -> H'.get r = H.get r) := by
 have hX := h.flat
 obtain ⟨els, h1, h2, h3, h4⟩ := h
 have hpos := hP.pos
 obtain ⟨w', H', g1, g2, g3, g4⟩ := pushS (by omega) hN h1 hl zero hz (e := e) (hP.cell he).1 (by_ := by_) (by rw [h2]; exact hr)
 refine ⟨w', H', g1, ⟨els ++ [e], g2, by simp [h2], fun x hx => ?_, fun t x hx => ?_⟩, g3, g4⟩
 ·rcases List.mem_append.1 hx with hx | hx
  ·exact h3 x hx
  ·rw [List.mem_singleton] at hx
   subst hx
   exact hP.cell he
 ·by_cases ht : t < els.length
  ·rw [List.getElem?_append_left ht] at hx
   exact hP.keep (h4 t x hx) hX g4
  ·have ht2 : t = els.length := by have := (List.getElem?_eq_some_iff.1 hx).1; simp at this; omega
   subst ht2
   simp at hx
   subst hx
   rw [h2]
   exact hP.keep he hX g4
theorem qI_at (A : List (List Int)) (i j : Nat) : (adjE A i j : Rat) / (det A.length (ent A) : Rat) = qI A.length (ent A) i j := rfl
theorem adj_le {A : List (List Int)} (hs : Sq A) {i j : Nat} (hi : i < A.length) (hj : j < A.length) : (adjM (A.length - 1) (ent A) i j).natAbs <= 2 ^ 136 := by
 have h8 := hs.n8
 show (alt (i + j) * det (A.length - 1) (minor2 (ent A) j i)).natAbs <= _
 rw [Int.natAbs_mul, alt_abs, Nat.one_mul]
 refine minor_le hs (by omega) fun x y hx hy => ?_
 show (ent A (skip j x) (skip i y)).natAbs <= _
 obtain ⟨r, _, _, h1, h2⟩ := hs.at (show skip j x < A.length by have := skip_lt (j := j) hx; omega) (show skip i y < A.length by have := skip_lt (j := i) hy; omega)
 omega
theorem qI_qm {A : List (List Int)} (hF : Form A) {i j : Nat} (hi : i < A.length) (hj : j < A.length) : QM (qI A.length (ent A) i j) :=
 QM.quot (adj_le hF.sq hi hj) (corner_le hF.sq (Nat.le_refl _)) (hF.nz (Nat.le_refl _))
theorem inverse_in (K : Nat) (hK : 1000000 < K) (d : Nat) {H0 : Heap} {a x b s : SV} {A R : List (List Int)} (hF : Form A) (hx : IsMat H0 (.agg [x]) R) (hg : Good R) (hR : R.length = A.length) (hC : colsOf R = A.length) (hE : ∀ i j, i < A.length -> j < A.length -> ent R i j = adjE A i j) (hd : IsInt H0 (.agg [b, s]) (det A.length (ent A))) {i : Nat} (hi : i < A.length) {lo : Nat} {Hi : Heap} (h0i : Frame H0 Hi) {out : SV} {ws : List SV} (ho : GWork 3 IsQ lo Hi out ws (qI A.length (ent A)) i A.length) (hlo : lo <= Hi.size) (k31 : SV -> SV -> SV -> SV -> SV -> SV -> Heap -> Rs) : ∀ (m j fuel : Nat) (H : Heap) (row : SV), j + m = A.length -> m < fuel -> Frame Hi H -> GRow 3 IsQ Hi.size H row (qI A.length (ent A) i) j ->
  ∃ out' ws' H', slow.loop10 (f12_l4 slow K (runQ wk tab slow K (d + 20)) k31) fuel a (.box [b, s]) (.box [x]) out (i64 i) row (i64 A.length) (i64 i) (i64 A.length) (i64 j) H = k31 a (.box [b, s]) (.box [x]) out' (i64 A.length) (i64 (i + 1)) H' /\ Fr lo Hi H' /\ GWork 3 IsQ lo H' out' ws' (qI A.length (ent A)) (i + 1) A.length
 | 0, j, fuel, H, row, hjm, hf, hfr, hr => by
  obtain ⟨fuel, rfl⟩ : ∃ q, fuel = q + 1 := ⟨fuel - 1, by omega⟩
  have h8 := hF.sq.n8
  have hj : j = A.length := by omega
  subst hj
  have hlt : ¬ A.length < A.length := Nat.lt_irrefl _
  obtain ⟨l', H2, ha, hW, hf2, _⟩ := ho.push pcellQ hlo hfr hr (by omega)
  refine ⟨l', _, H2, ?_, hf2, hW⟩
  rw [z_loop10]
  simp only [f12_l4, n_lss, decide_eq_false hlt, z_cond, cond_false, ha, w_inc (show i < 1000000 by omega)]
 | m + 1, j, fuel, H, row, hjm, hf, hfr, hr => by
  obtain ⟨fuel, rfl⟩ : ∃ q, fuel = q + 1 := ⟨fuel - 1, by omega⟩
  have h8 := hF.sq.n8
  have hlt : j < A.length := by omega
  have h0H := Frame.trans h0i hfr
  obtain ⟨z, h1, iz⟩ := wat_ok K (d + 18) H (hx.fr h0H) hg (i := i) (j := j) (by omega) (by omega)
  rw [show d + 18 + 2 = d + 20 from rfl] at h1
  rw [hE i j hi hlt] at iz
  have hdet : 0 < det A.length (ent A) := hF.cor _ hF.sq.n0 (Nat.le_refl _)
  have b1 : (adjE A i j).natAbs < 2 ^ 4096 := Nat.lt_of_le_of_lt (adj_le hF.sq hi hlt) (Nat.pow_lt_pow_right (by decide) (by decide))
  obtain ⟨q, H1, h2, fr1, iq⟩ := qmake_ok K (by omega) (d + 13) H iz (hd.fr h0H) hdet b1 (sq_det_small hF.sq)
  rw [show d + 13 + 7 = d + 20 from rfl] at h2
  rw [qI_at] at iq
  obtain ⟨q1, q2, q3, rfl, _⟩ := id iq
  obtain ⟨row', H2, h3, r2, fr2, _⟩ := (hr.fr pcellQ fr1).pushE pcellQ (by decide) (Nat.le_trans hfr.size fr1.size) [.bool false, .slice nilSl, .slice nilSl] rfl iq (by_ := 56) (roomy_small (by omega))
  obtain ⟨out', ws', H3, h4, g4⟩ := inverse_in K hK d (a := a) hF hx hg hR hC hE hd hi h0i ho hlo k31 m (j + 1) fuel H2 row' (by omega) (by omega) (Fr.trans (Frame.trans hfr fr1) fr2) r2
  refine ⟨out', ws', H3, ?_, g4⟩
  rw [z_loop10]
  simp only [f12_l4, n_lss, decide_eq_true hlt, z_cond, cond_true, z_lload1, h1, z_call, z_lload2, h2, z_ext0, z_ext1, z_bst3, z_lload3, h3, w_inc (show j < 1000000 by omega)]
  exact h4
theorem inverse_out (K : Nat) (hK : 1000000 < K) (d : Nat) {H0 : Heap} {a x b s : SV} {A R : List (List Int)} (ha : IsInts2 H0 a A) (hF : Form A) (hx : IsMat H0 (.agg [x]) R) (hg : Good R) (hR : R.length = A.length) (hC : colsOf R = A.length) (hE : ∀ i j, i < A.length -> j < A.length -> ent R i j = adjE A i j) (hd : IsInt H0 (.agg [b, s]) (det A.length (ent A))) : ∀ (m i fuel : Nat) (H : Heap) (out : SV) (ws : List SV), i + m = A.length -> m < fuel -> Frame H0 H -> GWork 3 IsQ H0.size H out ws (qI A.length (ent A)) i A.length ->
  ∃ out' ws' H', slow.loop6 (f12_l2 slow K (runQ wk tab slow K (d + 20))) fuel a (.box [b, s]) (.box [x]) out (i64 A.length) (i64 i) H = some (.tuple [out', .int .i64 0], H') /\ Frame H0 H' /\ GWork 3 IsQ H0.size H' out' ws' (qI A.length (ent A)) A.length A.length
 | 0, i, fuel, H, out, ws, him, hf, hfr, ho => by
  obtain ⟨fuel, rfl⟩ : ∃ q, fuel = q + 1 := ⟨fuel - 1, by omega⟩
  have hlt : ¬ i < A.length := by omega
  have e : i = A.length := by omega
  subst e
  refine ⟨out, ws, H, ?_, hfr, ho⟩
  rw [z_loop6]
  simp only [f12_l2, n_lss, decide_eq_false hlt, z_cond, cond_false, z_rest ho.out.arr.good]
 | m + 1, i, fuel, H, out, ws, him, hf, hfr, ho => by
  obtain ⟨fuel, rfl⟩ : ∃ q, fuel = q + 1 := ⟨fuel - 1, by omega⟩
  have h8 := hF.sq.n8
  have hlt : i < A.length := by omega
  obtain ⟨out', ws', H1, h1, fr1, W1⟩ := inverse_in K hK d (a := a) hF hx hg hR hC hE hd hlt hfr ho hfr.size (slow.loop6 (f12_l2 slow K (runQ wk tab slow K (d + 20))) fuel) A.length 0 K H (.slice nilSl) (by omega) (by omega) (Fr.refl _ _) (GRow.nil _ _ _)
  obtain ⟨o2, w2, H2, h2, g2⟩ := inverse_out K hK d ha hF hx hg hR hC hE hd m (i + 1) fuel H1 out' ws' (by omega) (by omega) (Fr.trans hfr fr1) W1
  refine ⟨o2, w2, H2, ?_, g2⟩
  rw [z_loop6]
  simp only [f12_l2, n_lss, decide_eq_true hlt, z_cond, cond_true, ints_len (IsRowsC.fr ha hfr)]
  exact h1.trans h2
theorem inverse_run (K d : Nat) (H : Heap) (v : SV) : runQ wk tab slow K (d + 21) 12 [v] H = f12 slow K (runQ wk tab slow K (d + 20)) v H := Eq.trans rfl rfl
theorem inverse_ok (K : Nat) (hK : 1000000 < K) (d : Nat) (H : Heap) {a : SV} {A : List (List Int)} (ha : IsInts2 H a A) (hF : Form A) :
  ∃ v ws H', runQ wk tab slow K (d + 21) 12 [a] H = some (.tuple [v, .int .i64 0], H') /\ Frame H H' /\ GWork 3 IsQ H.size H' v ws (qI A.length (ent A)) A.length A.length := by
 have h8 := hF.sq.n8
 have h0 := hF.sq.n0
 obtain ⟨H1, h1, fr1⟩ := chk_ok K (by omega) (d + 11) H ha
 rw [show d + 11 + 9 = d + 20 from rfl, chk_form.2 hF] at h1
 obtain ⟨w, H2, h2, fr2, m2⟩ := mof_w K hK d H1 (IsRowsC.fr ha fr1) hF.sq
 obtain ⟨b, s, H3, h3, fr3, n3⟩ := sdet_w K hK d H2 m2 hF.sq
 obtain ⟨r, H4, h4, fr4, m4⟩ := adj_ok K (by omega) (d + 9) H3 (m2.fr fr3) hF.sq.good
 rw [show d + 9 + 11 = d + 20 from rfl, hF.sq.sqE] at h4
 rw [if_pos hF.sq.sqE] at m4
 obtain ⟨x, rfl, _⟩ := id m4
 have F4 := Frame.trans fr1 (Frame.trans fr2 (Frame.trans fr3 fr4))
 obtain ⟨v, ws, H5, h5, fr5, W5⟩ := inverse_out K hK d (H0 := H4) (a := a) (IsRowsC.fr ha F4) hF m4 (adjR_good hF.sq.good hF.sq.sqE) (by simp [adjR, matOfE]) (colsOf_matOfE h0) (fun i j hi hj => ent_matOfE hi hj) (n3.fr fr4) A.length 0 K H4 (.slice nilSl) [] (by omega) (by omega) (Fr.refl _ _) ⟨Own.nil _ _, rfl, fun i w hw => by simp at hw, fun i j w w' r hw => by simp at hw⟩
 have hlo : H.size <= H4.size := F4.size
 refine ⟨v, ws, H5, ?_, Frame.trans F4 fr5, ⟨W5.out.mono hlo, W5.len, fun q w hw => (W5.row q w hw).mono hlo, W5.dis⟩⟩
 rw [inverse_run]
 have b0 : ((0 : Int) != 0) = false := rfl
 simp only [f12, h1, z_call, z_neq, b0, z_cond, cond_false, h2, z_ext0, z_ext1, z_bst1, z_lload1, h3, z_bst2, h4, ints_len ha]
 exact h5
theorem inverse_no (K : Nat) (hK : 1000000 < K) (d : Nat) (H : Heap) {a : SV} {A : List (List Int)} (ha : IsInts2 H a A) (hE : chkE A ≠ 0) :
  ∃ H', runQ wk tab slow K (d + 21) 12 [a] H = some (.tuple [.slice nilSl, .int .i64 (chkE A)], H') /\ Frame H H' := by
 obtain ⟨H1, h1, fr1⟩ := chk_ok K (by omega) (d + 11) H ha
 rw [show d + 11 + 9 = d + 20 from rfl] at h1
 have b : (chkE A != 0) = true := by simp [hE]
 refine ⟨H1, ?_, fr1⟩
 rw [inverse_run]
 simp only [f12, h1, z_call, z_neq, b, z_cond, cond_true, z_rest_int]
theorem lcm_step (n m : Nat) : n * (m / Nat.gcd n m) = Nat.lcm n m := by
 unfold Nat.lcm
 rw [Nat.mul_div_assoc _ (Nat.gcd_dvd_right n m)]
theorem qI_den {A : List (List Int)} (hF : Form A) {i j : Nat} (hi : i < A.length) (hj : j < A.length) : (qI A.length (ent A) i j).den ∣ (det A.length (ent A)).natAbs := by
 have hdet : 0 < det A.length (ent A) := hF.cor _ hF.sq.n0 (Nat.le_refl _)
 refine den_dvd (z := adjM (A.length - 1) (ent A) i j) (by omega) ?_
 have a := cast_ne (hF.nz (k := A.length) (Nat.le_refl _))
 have e : (((det A.length (ent A)).natAbs : Nat) : Rat) = (det A.length (ent A) : Rat) := by
  show ((((det A.length (ent A)).natAbs : Nat) : Int) : Rat) = _
  rw [Int.natAbs_of_nonneg (by omega)]
 rw [e]
 unfold qI
 grind
def lvlP (A : List (List Int)) (i j : Nat) : Nat := lcmRow (fun t => (qI A.length (ent A) i t).den) j (lcmAll (fun i j => (qI A.length (ent A) i j).den) A.length i)
theorem lvlP_dvd {A : List (List Int)} (hF : Form A) {i j : Nat} (hi : i < A.length) (hj : j <= A.length) : lvlP A i j ∣ (det A.length (ent A)).natAbs :=
 lcmRow_dvd (lcmAll_dvd fun x y hx hy => qI_den hF (by omega) hy) fun t ht => qI_den hF hi (by omega)
theorem lvlP_le {A : List (List Int)} (hF : Form A) {i j : Nat} (hi : i < A.length) (hj : j <= A.length) : lvlP A i j <= 2 ^ 136 := by
 have hdet : 0 < det A.length (ent A) := hF.cor _ hF.sq.n0 (Nat.le_refl _)
 exact Nat.le_trans (Nat.le_of_dvd (by omega) (lvlP_dvd hF hi hj)) (corner_le hF.sq (Nat.le_refl _))
theorem lvl_le {A : List (List Int)} (hF : Form A) : lvl A.length (ent A) <= 2 ^ 136 := by
 have hdet : 0 < det A.length (ent A) := hF.cor _ hF.sq.n0 (Nat.le_refl _)
 exact Nat.le_trans (Nat.le_of_dvd (by omega) (lcmAll_dvd fun x y hx hy => qI_den hF hx hy)) (corner_le hF.sq (Nat.le_refl _))
theorem lvlP_start (A : List (List Int)) : lvlP A 0 0 = 1 := rfl
theorem lvlP_next (A : List (List Int)) (i : Nat) : lvlP A i A.length = lvlP A (i + 1) 0 := rfl
theorem lvlP_end (A : List (List Int)) : lvlP A A.length 0 = lvl A.length (ent A) := rfl
theorem lvlP_step (A : List (List Int)) (i j : Nat) : lvlP A i (j + 1) = Nat.lcm (lvlP A i j) (qI A.length (ent A) i j).den := rfl
theorem p136 {n : Nat} (h : n <= 2 ^ 136) : n < 2 ^ 4096 := Nat.lt_of_le_of_lt h (Nat.pow_lt_pow_right (by decide) (by decide))
theorem level_in (K : Nat) (hK : 1000000 < K) (d : Nat) {H0 : Heap} {v u : SV} {ws : List SV} {lo : Nat} {A : List (List Int)} (hF : Form A) (hv : GWork 3 IsQ lo H0 v ws (qI A.length (ent A)) A.length A.length) {i : Nat} (hi : i < A.length) (k11 : SV -> SV -> SV -> SV -> SV -> Heap -> Rs) : ∀ (m j fuel : Nat) (H : Heap) (s : SV), j + m = A.length -> m < fuel -> Frame H0 H -> IsNat H (.agg [s]) (lvlP A i j) ->
  ∃ s' H', slow.loop8 (f16_l3 slow K (runQ wk tab slow K (d + 6)) k11) fuel v u (.box [s]) (i64 i) (i64 A.length) (i64 i) (i64 A.length) (i64 j) H = k11 v u (.box [s']) (i64 A.length) (i64 (i + 1)) H' /\ Frame H0 H' /\ IsNat H' (.agg [s']) (lvlP A (i + 1) 0)
 | 0, j, fuel, H, s, hjm, hf, hfr, hs => by
  obtain ⟨fuel, rfl⟩ : ∃ q, fuel = q + 1 := ⟨fuel - 1, by omega⟩
  have h8 := hF.sq.n8
  have hlt : ¬ j < A.length := by omega
  have e : j = A.length := by omega
  rw [e, lvlP_next] at hs
  refine ⟨s, H, ?_, hfr, hs⟩
  rw [z_loop8]
  simp only [f16_l3, n_lss, decide_eq_false hlt, z_cond, cond_false, w_inc (show i < 1000000 by omega)]
 | m + 1, j, fuel, H, s, hjm, hf, hfr, hs => by
  obtain ⟨fuel, rfl⟩ : ∃ q, fuel = q + 1 := ⟨fuel - 1, by omega⟩
  have h8 := hF.sq.n8
  have hlt : j < A.length := by omega
  obtain ⟨w, e, hw, a1, a2, a3⟩ := (hv.fr pcellQ hfr).load pcellQ hi hlt
  have hq := qI_qm hF hi hlt
  have hden := p136 hq.2
  have hcur := lvlP_le hF hi (show j <= A.length by omega)
  obtain ⟨x, H1, h1, fr1, n1⟩ := den_ok K (by omega) (d + 1) H a3 hden
  rw [show d + 1 + 5 = d + 6 from rfl] at h1
  obtain ⟨y, H2, h2, fr2, n2⟩ := den_ok K (by omega) (d + 1) H1 (a3.fr fr1) hden
  rw [show d + 1 + 5 = d + 6 from rfl] at h2
  obtain ⟨g, H3, h3, fr3, n3⟩ := gcdN_ok K (by omega) (d + 1) H2 ((hs.fr fr1).fr fr2) n2 (p136 hcur) hden
  rw [show d + 1 + 5 = d + 6 from rfl] at h3
  have hg0 := Nat.gcd_pos_of_pos_right (lvlP A i j) (qI A.length (ent A) i j).den_pos
  obtain ⟨q, r, H4, h4, fr4, n4, nr⟩ := div_ok K (by omega) (d + 2) H3 ((n1.fr fr2).fr fr3) n3 hg0 (dg_len hden)
  rw [show d + 2 + 4 = d + 6 from rfl] at h4
  have hqn : (qI A.length (ent A) i j).den / Nat.gcd (lvlP A i j) (qI A.length (ent A) i j).den < 2 ^ 4096 := Nat.lt_of_le_of_lt (Nat.div_le_self _ _) hden
  have hs4 := (((hs.fr fr1).fr fr2).fr fr3).fr fr4
  obtain ⟨p, H5, h5, fr5, n5⟩ := mul_nat_ok K (d + 2) H4 hs4 n4 (by omega) (p136 hcur) hqn
  rw [show d + 2 + 4 = d + 6 from rfl] at h5
  have hnext := lvlP_le hF hi (show j + 1 <= A.length by omega)
  rw [lcm_step, <- lvlP_step] at h5 n5
  rw [if_pos (p136 hnext)] at h5 n5
  obtain ⟨p', rfl, _⟩ := id n5
  obtain ⟨q', rfl, _⟩ := id n4
  obtain ⟨r', rfl, _⟩ := id nr
  obtain ⟨s', H6, h6, g6⟩ := level_in K hK d (u := u) hF hv hi k11 m (j + 1) fuel H5 p' (by omega) (by omega) (Frame.trans hfr (Frame.trans fr1 (Frame.trans fr2 (Frame.trans fr3 (Frame.trans fr4 fr5))))) n5
  refine ⟨s', H6, ?_, g6⟩
  rw [z_loop8]
  simp only [f16_l3, n_lss, decide_eq_true hlt, z_cond, cond_true, a1, a2, z_mkfn1 a3.good, y_callv1, h1, z_call, z_lload1, h2, h3, h4, z_ext0, z_ext1, z_ext2, z_bst1, h5, w_inc (show j < 1000000 by omega)]
  exact h6
theorem level_out (K : Nat) (hK : 1000000 < K) (d : Nat) {H0 : Heap} {v : SV} {ws : List SV} {lo : Nat} {A : List (List Int)} (hF : Form A) (hv : GWork 3 IsQ lo H0 v ws (qI A.length (ent A)) A.length A.length) : ∀ (m i fuel : Nat) (H : Heap) (s : SV), i + m = A.length -> m < fuel -> Frame H0 H -> IsNat H (.agg [s]) (lvlP A i 0) ->
  ∃ s' H', slow.loop5 (f16_l1 slow K (runQ wk tab slow K (d + 6))) fuel v (.box [.slice nilSl]) (.box [s]) (i64 A.length) (i64 i) H = some (.agg [s'], H') /\ Frame H0 H' /\ IsNat H' (.agg [s']) (lvl A.length (ent A))
 | 0, i, fuel, H, s, him, hf, hfr, hs => by
  obtain ⟨fuel, rfl⟩ : ∃ q, fuel = q + 1 := ⟨fuel - 1, by omega⟩
  have hlt : ¬ i < A.length := by omega
  have e : i = A.length := by omega
  rw [e, lvlP_end] at hs
  refine ⟨s, H, ?_, hfr, hs⟩
  rw [z_loop5]
  simp only [f16_l1, n_lss, decide_eq_false hlt, z_cond, cond_false, z_lload1, z_bst1, z_resc1]
 | m + 1, i, fuel, H, s, him, hf, hfr, hs => by
  obtain ⟨fuel, rfl⟩ : ∃ q, fuel = q + 1 := ⟨fuel - 1, by omega⟩
  have h8 := hF.sq.n8
  have hlt : i < A.length := by omega
  obtain ⟨w, hw⟩ : ∃ w, ws[i]? = some w := ⟨_, List.getElem?_eq_getElem (by rw [hv.len]; exact hlt)⟩
  have hv1 := hv.fr pcellQ hfr
  have l1 := hv1.out.arr.load hw .i64
  have l2 := (hv1.row i w hw).len
  obtain ⟨s', H1, h1, fr1, n1⟩ := level_in K hK d (u := .box [.slice nilSl]) hF hv hlt (slow.loop5 (f16_l1 slow K (runQ wk tab slow K (d + 6))) fuel) A.length 0 K H s (by omega) (by omega) hfr hs
  obtain ⟨s2, H2, h2, g2⟩ := level_out K hK d hF hv m (i + 1) fuel H1 s' (by omega) (by omega) fr1 n1
  refine ⟨s2, H2, ?_, g2⟩
  rw [z_loop5]
  simp only [f16_l1, n_lss, decide_eq_true hlt, z_cond, cond_true, l1, l2]
  exact h1.trans h2
theorem level_run (K d : Nat) (H : Heap) (v : SV) : runQ wk tab slow K (d + 7) 16 [v] H = f16 slow K (runQ wk tab slow K (d + 6)) v H := Eq.trans rfl rfl
theorem level_ok (K : Nat) (hK : 1000000 < K) (d : Nat) (H : Heap) {v : SV} {ws : List SV} {lo : Nat} {A : List (List Int)} (hF : Form A) (hv : GWork 3 IsQ lo H v ws (qI A.length (ent A)) A.length A.length) :
  ∃ s H', runQ wk tab slow K (d + 7) 16 [v] H = some (.agg [s], H') /\ Frame H H' /\ IsNat H' (.agg [s]) (lvl A.length (ent A)) := by
 have h8 := hF.sq.n8
 obtain ⟨r, H1, h1, fr1, n1⟩ := of_ok K (by omega) (d + 4) H (n := 1) (by decide)
 have h1' : runQ wk tab slow K (d + 6) 10 [.int .u64 1] H = some (r, H1) := h1
 obtain ⟨s, rfl, _⟩ := id n1
 rw [<- lvlP_start A] at n1
 obtain ⟨s', H2, h2, fr2, n2⟩ := level_out K hK d (H0 := H1) hF (hv.fr pcellQ fr1) A.length 0 K H1 s (by omega) (by omega) (Fr.refl _ _) n1
 refine ⟨s', H2, ?_, Frame.trans fr1 fr2, n2⟩
 rw [level_run]
 simp only [f16, h1', z_call, z_bst1, hv.size]
 exact h2
end Go.Sh.Of

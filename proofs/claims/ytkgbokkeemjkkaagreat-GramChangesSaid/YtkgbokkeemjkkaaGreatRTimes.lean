/- Contracts of the reference's times (U A U^T, without bounds) and Small (a matrix as the machine's numbers). -/
import Derived.Test.YtkgbokkeemjkkaaGreatRChk
import Derived.Test.YtkgbokkeemjkkaaGreatRWide
import Derived.Test.YtkgbokkeemjkkaaGreatDot
import Derived.Test.YtkgbokkeemjkkaaGreatSqI
set_option linter.unusedVariables false
set_option linter.unusedSimpArgs false
set_option exponentiation.threshold 20000
namespace Go.Sh.Of
open Go Go.Sh
variable {a b p i j lu lo lm n : Nat}
variable {A U : List (List Int)}
variable {H0 Hi : Heap}
variable {va vu out vm : SV}
variable {E : Nat -> Nat -> Int}
theorem digs2 {m e : Nat} (h : m <= 2 ^ e) (he : e <= 9000) : (rdigs m).length <= 600 := rdigs_len_le (k := 600) (by
 rw [pow_D (k := 9600) rfl]
 exact Nat.lt_of_le_of_lt h (Nat.pow_lt_pow_right (by decide) (by omega)))
theorem mul2 {q : Nat} (ha : a <= 2 ^ p) (hb : b <= 2 ^ q) : a * b <= 2 ^ (p + q) := by
 rw [Nat.pow_add]
 exact Nat.mul_le_mul ha hb
theorem add2 (ha : a <= 2 ^ p) (hb : b <= 2 ^ p) : a + b <= 2 ^ (p + 1) := by
 rw [Nat.pow_succ]
 omega
structure TimesH (A U : List (List Int)) : Prop where
 sq : Sq A
 good : Good U
 len : U.length = A.length
 cols : colsOf U = A.length
theorem TimesH.ub (h : TimesH A U) : ∀ i j, i < A.length -> j < A.length -> (ent U i j).natAbs <= 2 ^ 4096 := fun i j hi hj => by
 obtain ⟨r, _, _, hb⟩ := h.good.at (i := i) (j := j) (by rw [h.len]; exact hi) (by rw [h.cols]; exact hj)
 exact Nat.le_of_lt hb
theorem TimesH.ab (h : TimesH A U) : ∀ i j, i < A.length -> j < A.length -> (ent A i j).natAbs <= 2 ^ 14 := fun i j hi hj => by
 obtain ⟨r, _, _, a3, a4⟩ := h.sq.at hi hj
 show _ <= 16384
 omega
theorem TimesH.dotb {A U : List (List Int)} (h : TimesH A U) (hi : i < A.length) (hj : j < A.length) {x y : Nat} (hx : x <= A.length) (hy : y <= A.length) (hxy : x < A.length \/ y = 0) : (dotS A.length (ent A) (ent U i) (ent U j) x y).natAbs <= 2 ^ 8300 := by
 have h8 := h.sq.n8
 have bd := dotS_abs (n := A.length) (A := ent A) (X := ent U i) (Y := ent U j) (fun t ht => h.ub i t hi ht) h.ab (fun t ht => h.ub j t hj ht) hx hy hxy
 refine Nat.le_trans bd ?_
 have k3 : ∀ m : Nat, m <= 8 -> m <= 2 ^ 3 := fun m hm => hm
 have e1 : 2 ^ 4096 * (2 ^ 14 * 2 ^ 4096) <= 2 ^ (4096 + (14 + 4096)) := mul2 (Nat.le_refl _) (mul2 (Nat.le_refl _) (Nat.le_refl _))
 have e2 := mul2 (k3 A.length h8) e1
 have e3 := mul2 (k3 x (by omega)) e2
 have e4 := mul2 (k3 y (by omega)) e1
 have e5 : 2 ^ (3 + (4096 + (14 + 4096))) <= 2 ^ (3 + (3 + (4096 + (14 + 4096)))) := Nat.pow_le_pow_right (by decide) (by omega)
 exact Nat.le_trans (add2 e3 (Nat.le_trans e4 e5)) (Nat.pow_le_pow_right (by decide) (by omega))
theorem times_y (K : Nat) (hK : 3000000 < K) (d : Nat) {va vu y36 y38 : SV} (h : TimesH A U) (ha : IsInts2 H0 va A) (hu : IsRRows lu H0 vu U) {i j x : Nat} (hi : i < A.length) (hj : j < A.length) (hx : x < A.length) (k31 : SV -> SV -> SV -> SV -> SV -> SV -> SV -> SV -> Heap -> Rs) : ∀ (m y fuel : Nat) (H : Heap) (b s : SV), y + m = A.length -> m < fuel -> Frame H0 H -> IsRZ H (.agg [b, s]) (dotS A.length (ent A) (ent U i) (ent U j) x y) ->
  ∃ b' s' H', slow.loop9 (f41_l7 slow K (runQ wk tab slow K (d + 3)) k31) fuel va vu y36 (i64 i) y38 (i64 j) (.box [b, s]) (i64 x) (i64 y) H = k31 va vu y36 (i64 i) y38 (i64 j) (.box [b', s']) (i64 (x + 1)) H' /\ Frame H H' /\ IsRZ H' (.agg [b', s']) (dotS A.length (ent A) (ent U i) (ent U j) (x + 1) 0)
 | 0, y, fuel, H, b, s, hym, hf, hfr, hn => by
  obtain ⟨fuel, rfl⟩ := suc hf
  have e : y = A.length := by omega
  subst e
  have h8 := h.sq.n8
  have hlt : ¬ A.length < A.length := Nat.lt_irrefl _
  rw [dotS_row] at hn
  refine ⟨b, s, H, ?_, Fr.refl _ _, hn⟩
  rw [z_loop9]
  simp only [f41_l7, ints_len (IsRowsC.fr ha hfr), n_lss, decide_eq_false hlt, z_cond, cond_false, w_inc (show x < 1000000 by omega)]
 | m + 1, y, fuel, H, b, s, hym, hf, hfr, hn => by
  obtain ⟨fuel, rfl⟩ := suc hf
  have hlt : y < A.length := by omega
  have h8 := h.sq.n8
  have hly : ∀ k, slow.lss (i64 y) (i64 A.length) k = k (.bool true) := fun k => by rw [n_lss, decide_eq_true hlt]
  obtain ⟨r, a1, a2, a3, a4⟩ := h.sq.at hx hlt
  obtain ⟨u1, x1, p1, _, p2, p3, _⟩ := (hu.fr hfr).entry h.good (i := i) (j := x) (by rw [h.len]; exact hi) (by rw [h.cols]; exact hx)
  obtain ⟨u2, x2, q1, _, q2, q3, _⟩ := (hu.fr hfr).entry h.good (i := j) (j := y) (by rw [h.len]; exact hj) (by rw [h.cols]; exact hlt)
  have bX := h.ub i x hi hx
  have bY := h.ub j y hj hlt
  have bA := h.ab x y hx hlt
  have dX := digs2 bX (by omega)
  have dY := digs2 bY (by omega)
  have dA := digs2 bA (by omega)
  obtain ⟨pr, H1, h1, f1, n1⟩ := rzmul_ok K hK d H p3 q3 (by omega) (by omega)
  have bP : (ent U i x * ent U j y).natAbs <= 2 ^ (4096 + 4096) := by
   rw [Int.natAbs_mul]
   exact mul2 bX bY
  have dP := digs2 bP (by omega)
  obtain ⟨w, l1, l2⟩ := ints_entry (IsRowsC.fr ha (Frame.trans hfr f1)) a1 a2
  obtain ⟨oa, H2, h2, f2, n2⟩ := rzof_ok K (by omega) (d + 1) H1 (z := ent A x y) (by omega) (by omega)
  rw [show d + 1 + 2 = d + 3 from rfl] at h2
  obtain ⟨pr2, H3, h3, f3, n3⟩ := rzmul_ok K hK d H2 (n1.fr f2) n2 (by omega) (by omega)
  have bQ : (ent U i x * ent U j y * ent A x y).natAbs <= 2 ^ (4096 + 4096 + 14) := by
   rw [Int.natAbs_mul]
   exact mul2 bP bA
  have dQ := digs2 bQ (by omega)
  have dS := digs2 (h.dotb hi hj (x := x) (y := y) (by omega) (by omega) (.inl hx)) (by omega)
  have F3 := Frame.trans f1 (Frame.trans f2 f3)
  obtain ⟨sm, H4, h4, f4, n4⟩ := rzadd_ok K hK d H3 (hn.fr F3) n3 (by omega) (by omega)
  have est : dotS A.length (ent A) (ent U i) (ent U j) x y + ent U i x * ent U j y * ent A x y = dotS A.length (ent A) (ent U i) (ent U j) x (y + 1) := by
   rw [dotS_step]
  rw [est] at n4
  obtain ⟨xb, rfl, _⟩ := n1
  have n4' := n4
  obtain ⟨sb, rfl, _⟩ := n4
  obtain ⟨b', s', H5, h5, f5, n5⟩ := times_y K hK d (y36 := y36) (y38 := y38) h ha hu hi hj hx k31 m (y + 1) fuel H4 _ _ (by omega) (by omega) (Frame.trans hfr (Frame.trans F3 f4)) n4'
  refine ⟨b', s', H5, ?_, Frame.trans (Frame.trans F3 f4) f5, n5⟩
  rw [z_loop9]
  simp only [f41_l7, ints_len (IsRowsC.fr ha hfr), hly, z_cond, cond_true, p1, p2, q1, q2, h1, z_call, z_bst2, z_lload2, l1, l2, h2, h3, h4, w_inc (show y < 1000000 by omega)]
  exact h5
theorem times_x (K : Nat) (hK : 3000000 < K) (d : Nat) (h0i : Frame H0 Hi) {va vu y24 t : SV} {zs : List Int} (h : TimesH A U) (ha : IsInts2 H0 va A) (hu : IsRRows lu H0 vu U) (hlo : lo <= Hi.size) (hi : i < A.length) (hj : j < A.length) (ht : RRow lo Hi t zs) (hzl : zs.length < 1000) (k16 : SV -> SV -> SV -> SV -> SV -> SV -> Heap -> Rs) : ∀ (m x fuel : Nat) (H : Heap) (b s : SV), x + m = A.length -> m < fuel -> Frame Hi H -> IsRZ H (.agg [b, s]) (dotS A.length (ent A) (ent U i) (ent U j) x 0) ->
  ∃ t' H', slow.loop8 (f41_l5 slow K (runQ wk tab slow K (d + 3)) k16) fuel va vu y24 (i64 i) t (i64 j) (.box [b, s]) (i64 x) H = k16 va vu y24 (i64 i) t' (i64 (j + 1)) H' /\ Fr lo Hi H' /\ RRow lo H' t' (zs ++ [chM A.length (ent A) (ent U) i j])
 | 0, x, fuel, H, b, s, hxm, hf, hfr, hn => by
  obtain ⟨fuel, rfl⟩ := suc hf
  have e : x = A.length := by omega
  subst e
  have h8 := h.sq.n8
  have hlt : ¬ A.length < A.length := Nat.lt_irrefl _
  rw [dotS_end, <- chM_eq] at hn
  obtain ⟨t', H', h1, t1, f1⟩ := (ht.fr hfr).push (Nat.le_trans hlo hfr.size) hn (by omega)
  refine ⟨t', H', ?_, Fr.trans (hfr.mono hlo) f1, t1⟩
  rw [z_loop8]
  simp only [f41_l5, ints_len (IsRowsC.fr ha (Frame.trans h0i hfr)), n_lss, decide_eq_false hlt, z_cond, cond_false, z_lload2, h1, w_inc (show j < 1000000 by omega)]
 | m + 1, x, fuel, H, b, s, hxm, hf, hfr, hn => by
  obtain ⟨fuel, rfl⟩ := suc hf
  have hlt : x < A.length := by omega
  have h8 := h.sq.n8
  obtain ⟨b1, s1, H1, h1, f1, n1⟩ := times_y K hK d (y36 := y24) (y38 := t) h ha hu hi hj hlt (slow.loop8 (f41_l5 slow K (runQ wk tab slow K (d + 3)) k16) fuel) A.length 0 K H b s (by omega) (by omega) (Frame.trans h0i hfr) hn
  obtain ⟨t', H2, h2, g2⟩ := times_x K hK d h0i (y24 := y24) h ha hu hlo hi hj ht hzl k16 m (x + 1) fuel H1 b1 s1 (by omega) (by omega) (Frame.trans hfr f1) n1
  refine ⟨t', H2, ?_, g2⟩
  rw [z_loop8]
  simp only [f41_l5, ints_len (IsRowsC.fr ha (Frame.trans h0i hfr)), n_lss, decide_eq_true hlt, z_cond, cond_true]
  rw [show (SV.int .i64 0) = i64 0 from rfl, h1]
  exact h2
theorem times_j (K : Nat) (hK : 3000000 < K) (d : Nat) {H0 Hi : Heap} (h0i : Frame H0 Hi) {lu lo : Nat} {rows : List (List Int)} (h : TimesH A U) (ha : IsInts2 H0 va A) (hu : IsRRows lu H0 vu U) (hlo : lo <= Hi.size) (hi : i < A.length) (ho : ROut lo Hi out rows) (hrl : rows.length = i) (k6 : SV -> SV -> SV -> SV -> Heap -> Rs) : ∀ (m j fuel : Nat) (H : Heap) (t : SV), j + m = A.length -> m < fuel -> Frame Hi H -> RRow Hi.size H t ((List.range j).map (chM A.length (ent A) (ent U) i)) ->
  ∃ out' H', slow.loop6 (f41_l3 slow K (runQ wk tab slow K (d + 3)) k6) fuel va vu out (i64 i) t (i64 j) H = k6 va vu out' (i64 (i + 1)) H' /\ Fr lo Hi H' /\ ROut lo H' out' (rows ++ [rowI A.length (chM A.length (ent A) (ent U)) i])
 | 0, j, fuel, H, t, hjm, hf, hfr, ht => by
  obtain ⟨fuel, rfl⟩ := suc hf
  have e : j = A.length := by omega
  subst e
  have h8 := h.sq.n8
  have hlt : ¬ A.length < A.length := Nat.lt_irrefl _
  obtain ⟨out', H', h1, o1, f1⟩ := ho.push hlo hfr ht (by omega)
  refine ⟨out', H', ?_, f1, o1⟩
  rw [z_loop6]
  simp only [f41_l3, ints_len (IsRowsC.fr ha (Frame.trans h0i hfr)), n_lss, decide_eq_false hlt, z_cond, cond_false, h1, w_inc (show i < 1000000 by omega)]
 | m + 1, j, fuel, H, t, hjm, hf, hfr, ht => by
  obtain ⟨fuel, rfl⟩ := suc hf
  have hlt : j < A.length := by omega
  have h8 := h.sq.n8
  obtain ⟨o, H1, h1, f1, n1⟩ := rzof_ok K (by omega) (d + 1) H (z := 0) (by decide) (by decide)
  rw [show d + 1 + 2 = d + 3 from rfl] at h1
  have n1' := n1
  obtain ⟨ob, rfl, _⟩ := n1
  obtain ⟨t', H2, h2, f2, t2⟩ := times_x K hK d (Frame.trans h0i (Frame.trans hfr f1)) (Hi := H1) (lo := Hi.size) (y24 := out) h ha hu (Nat.le_trans hfr.size f1.size) hi hlt (ht.fr f1) (by simp; omega) (slow.loop6 (f41_l3 slow K (runQ wk tab slow K (d + 3)) k6) fuel) A.length 0 K H1 _ _ (by omega) (by omega) (Fr.refl _ _) n1'
  have eS : (List.range j).map (chM A.length (ent A) (ent U) i) ++ [chM A.length (ent A) (ent U) i j] = (List.range (j + 1)).map (chM A.length (ent A) (ent U) i) := by
   rw [List.range_succ, List.map_append]
   rfl
  rw [eS] at t2
  obtain ⟨out', H3, h3, g3⟩ := times_j K hK d h0i h ha hu hlo hi ho hrl k6 m (j + 1) fuel H2 t' (by omega) (by omega) (Fr.trans (Frame.trans hfr f1) f2) t2
  refine ⟨out', H3, ?_, g3⟩
  rw [z_loop6]
  simp only [f41_l3, ints_len (IsRowsC.fr ha (Frame.trans h0i hfr)), n_lss, decide_eq_true hlt, z_cond, cond_true, h1, z_call, z_bst2]
  rw [show (SV.int .i64 0) = i64 0 from rfl, h2]
  exact h3
theorem times_i (K : Nat) (hK : 3000000 < K) (d : Nat) (h : TimesH A U) (ha : IsInts2 H0 va A) (hu : IsRRows lu H0 vu U) : ∀ (m i fuel : Nat) (H : Heap) (out : SV), i + m = A.length -> m < fuel -> Frame H0 H -> ROut H0.size H out ((List.range i).map (rowI A.length (chM A.length (ent A) (ent U)))) ->
  ∃ v H', slow.loop4 (f41_l1 slow K (runQ wk tab slow K (d + 3))) fuel va vu out (i64 i) H = some (v, H') /\ Frame H0 H' /\ IsRRows H0.size H' v (sqM A.length (chM A.length (ent A) (ent U)))
 | 0, i, fuel, H, out, him, hf, hfr, ho => by
  obtain ⟨fuel, rfl⟩ := suc hf
  have e : i = A.length := by omega
  subst e
  have hlt : ¬ A.length < A.length := Nat.lt_irrefl _
  refine ⟨out, H, ?_, hfr, ho.rrows⟩
  rw [z_loop4]
  simp only [f41_l1, ints_len (IsRowsC.fr ha hfr), n_lss, decide_eq_false hlt, z_cond, cond_false, z_rest ho.good]
 | m + 1, i, fuel, H, out, him, hf, hfr, ho => by
  obtain ⟨fuel, rfl⟩ := suc hf
  have hlt : i < A.length := by omega
  have h8 := h.sq.n8
  obtain ⟨out', H1, h1, f1, o1⟩ := times_j K hK d hfr h ha hu hfr.size hlt ho (by simp) (slow.loop4 (f41_l1 slow K (runQ wk tab slow K (d + 3))) fuel) A.length 0 K H (.slice nilSl) (by omega) (by omega) (Fr.refl _ _) (by simpa using RRow.nil _ _)
  have eS : (List.range i).map (rowI A.length (chM A.length (ent A) (ent U))) ++ [rowI A.length (chM A.length (ent A) (ent U)) i] = (List.range (i + 1)).map (rowI A.length (chM A.length (ent A) (ent U))) := by
   rw [List.range_succ, List.map_append]
   rfl
  rw [eS] at o1
  obtain ⟨v, H2, h2, g2⟩ := times_i K hK d h ha hu m (i + 1) fuel H1 out' (by omega) (by omega) (Fr.trans hfr f1) o1
  refine ⟨v, H2, ?_, g2⟩
  rw [z_loop4]
  simp only [f41_l1, ints_len (IsRowsC.fr ha hfr), n_lss, decide_eq_true hlt, z_cond, cond_true]
  rw [show (SV.int .i64 0) = i64 0 from rfl, h1]
  exact h2
theorem times_ok (K : Nat) (hK : 3000000 < K) (d : Nat) (H : Heap) (h : TimesH A U) (ha : IsInts2 H va A) (hu : IsRRows lu H vu U) :
  ∃ v H', runQ wk tab slow K (d + 4) 41 [va, vu] H = some (v, H') /\ Frame H H' /\ IsRRows H.size H' v (sqM A.length (chM A.length (ent A) (ent U))) := by
 have h8 := h.sq.n8
 exact times_i K hK d h ha hu A.length 0 K H (.slice nilSl) (by omega) (by omega) (Fr.refl _ _) (by simpa using ROut.nil _ _)
theorem small7_in (K : Nat) (hK : 3000000 < K) (d : Nat) (h0i : Frame H0 Hi) (hn : n <= 8) {E : Nat -> Nat -> Int} (hE : ∀ i j, i < n -> j < n -> (rdigs (E i j).natAbs).length < 1000000) (hm : IsRRows lm H0 vm (sqM n E)) (hlo : lo <= Hi.size) {i : Nat} (hi : i < n) (ho : OwnRR lo Hi out ((List.range i).map (rowI n E))) (k6 : SV -> SV -> SV -> SV -> Heap -> Rs) : ∀ (m j fuel : Nat) (H : Heap) (t : SV), j + m = n -> m < fuel -> Frame Hi H -> Own Hi.size H t (intsL .i64 ((List.range j).map (E i))) -> (∀ q, q < j -> smallB (E i q) = true) ->
  (∃ H', slow.loop6 (f40_l3 slow K (runQ wk tab slow K (d + 2)) k6) fuel vm (.int .i64 16384) out (i64 i) t (i64 j) H = some (.tuple [.slice nilSl, .bool false], H') /\ Frame Hi H' /\ ∃ q, q < n /\ smallB (E i q) = false) \/
  (∃ out' H', slow.loop6 (f40_l3 slow K (runQ wk tab slow K (d + 2)) k6) fuel vm (.int .i64 16384) out (i64 i) t (i64 j) H = k6 vm (.int .i64 16384) out' (i64 (i + 1)) H' /\ Fr lo Hi H' /\ OwnRR lo H' out' ((List.range (i + 1)).map (rowI n E)) /\ ∀ q, q < n -> smallB (E i q) = true)
 | 0, j, fuel, H, t, hjm, hf, hfr, ht, hd => by
  obtain ⟨fuel, rfl⟩ := suc hf
  have e : j = n := by omega
  subst e
  have hlt : ¬ j < j := Nat.lt_irrefl _
  have hmi : (sqM j E)[i]? = some (rowI j E i) := by simp [sqM, hi]
  obtain ⟨u, l1, hu⟩ := (hm.fr (Frame.trans h0i hfr)).load hmi
  have l1' : ∀ k', slow.idx 1 vm (i64 i) (fun p => slow.load 1 false p H k') = k' u := fun k' => l1 .i64 k'
  obtain ⟨out', H', h1, o1, f1⟩ := (ho.fr hfr).push (Nat.le_trans hlo hfr.size) (by simp; omega) (fun r hr => by
   obtain ⟨x, _, rfl⟩ := List.mem_map.1 hr
   exact rowI_ne (by omega) E x) (rowI_ne (by omega) E i) (ht.mono hlo)
  refine .inr ⟨out', H', ?_, Fr.trans (hfr.mono hlo) f1, ?_, hd⟩
  ·rw [z_loop6]
   simp only [f40_l3, l1', hu.len, rowI_len, n_lss, decide_eq_false hlt, z_cond, cond_false, h1, w_inc (show i < 1000000 by omega)]
  ·rw [List.range_succ, List.map_append]
   exact o1
 | m + 1, j, fuel, H, t, hjm, hf, hfr, ht, hd => by
  obtain ⟨fuel, rfl⟩ := suc hf
  have hlt : j < n := by omega
  have hmi : (sqM n E)[i]? = some (rowI n E i) := by simp [sqM, hi]
  obtain ⟨u, l1, hu⟩ := (hm.fr (Frame.trans h0i hfr)).load hmi
  have l1' : ∀ k', slow.idx 1 vm (i64 i) (fun p => slow.load 1 false p H k') = k' u := fun k' => l1 .i64 k'
  obtain ⟨x, l2, hx⟩ := hu.load (rowI_get (E := E) (i := i) hlt)
  have l2' : ∀ k', slow.idx 2 u (i64 j) (fun p => slow.load 2 true p H k') = k' x := fun k' => l2 .i64 k'
  obtain ⟨z, h1, hz⟩ := rzsmallL K (by omega) d H hx (hE i j hi hlt)
  have hneg : ∀ k, slow.u_neg (.int .i64 16384) k = k (.int .i64 (-16384)) := fun k => rfl
  rw [z_loop6]
  simp only [f40_l3, l1', hu.len, rowI_len, n_lss, decide_eq_true hlt, z_cond, cond_true, l2', h1, z_call, z_ext0, z_ext1, z_not]
  cases hq : fits64 (E i j) with
  | false =>
   left
   have hno : ¬ I64 (E i j) := fun h => by rw [fits64_iff.2 h] at hq; cases hq
   refine ⟨H, rfl, hfr, j, hlt, ?_⟩
   unfold smallB
   by_cases c : -16384 <= E i j
   ·rw [decide_eq_false (show ¬ E i j <= 16384 from fun c2 => hno (by unfold I64; omega)), Bool.and_false]
   ·rw [decide_eq_false c, Bool.false_and]
  | true =>
   rw [hz hq]
   have hg2 : ∀ k, slow.gtr (.int .i64 (E i j)) (.int .i64 16384) k = k (.bool (decide (E i j > 16384))) := fun k => z_gtr _ _ _ k
   have hl2 : ∀ k, slow.lss (.int .i64 (E i j)) (.int .i64 (-16384)) k = k (.bool (decide (E i j < -16384))) := fun k => z_lss _ _ _ k
   simp only [Bool.not_true, z_guard, cond_false, hg2]
   by_cases c1 : E i j > 16384
   ·left
    rw [decide_eq_true c1]
    refine ⟨H, rfl, hfr, j, hlt, ?_⟩
    unfold smallB
    rw [decide_eq_false (show ¬ E i j <= 16384 by omega), Bool.and_false]
   ·rw [decide_eq_false c1]
    simp only [cond_false, hneg, hl2]
    by_cases c2 : E i j < -16384
    ·left
     rw [decide_eq_true c2]
     refine ⟨H, rfl, hfr, j, hlt, ?_⟩
     unfold smallB
     rw [decide_eq_false (show ¬ -16384 <= E i j by omega), Bool.false_and]
    ·rw [decide_eq_false c2]
     obtain ⟨t', H1, h2, o2, f2, _⟩ := push1 ht hfr.size (.int .i64 0) (x := .int .i64 (E i j)) rfl (by_ := 8) (roomy_small (by simp [intsL]; omega))
     have eS : intsL .i64 ((List.range j).map (E i)) ++ [SV.int .i64 (E i j)] = intsL .i64 ((List.range (j + 1)).map (E i)) := by
      rw [List.range_succ]
      simp [intsL]
     rw [eS] at o2
     simp only [f40_j5, z_cond, cond_false, h2, w_inc (show j < 1000000 by omega)]
     exact small7_in K hK d h0i hn hE hm hlo hi ho k6 m (j + 1) fuel H1 t' (by omega) (by omega) (Fr.trans hfr f2) o2 fun q hq' => by
      by_cases e : q = j
      ·subst e
       unfold smallB
       rw [decide_eq_true (show -16384 <= E i q by omega), decide_eq_true (show E i q <= 16384 by omega)]
       rfl
      ·exact hd q (by omega)
def smallM (n : Nat) (E : Nat -> Nat -> Int) : Bool := decide (∀ i, i < n -> ∀ j, j < n -> smallB (E i j) = true)
theorem small7_out (K : Nat) (hK : 3000000 < K) (d : Nat) (hn : n <= 8) (hE : ∀ i j, i < n -> j < n -> (rdigs (E i j).natAbs).length < 1000000) (hm : IsRRows lm H0 vm (sqM n E)) : ∀ (m i fuel : Nat) (H : Heap) (out : SV), i + m = n -> m < fuel -> Frame H0 H -> OwnRR H0.size H out ((List.range i).map (rowI n E)) -> (∀ p, p < i -> ∀ q, q < n -> smallB (E p q) = true) ->
  ∃ v H', slow.loop4 (f40_l1 slow K (runQ wk tab slow K (d + 2))) fuel vm (.int .i64 16384) out (i64 i) H = some (.tuple [v, .bool (smallM n E)], H') /\ Frame H0 H' /\ OwnRR H0.size H' v (if smallM n E then sqM n E else [])
 | 0, i, fuel, H, out, him, hf, hfr, ho, hd => by
  obtain ⟨fuel, rfl⟩ := suc hf
  have e : i = n := by omega
  subst e
  have hlt : ¬ i < i := Nat.lt_irrefl _
  have hlm : (sqM i E).length = i := by simp [sqM]
  have eS : smallM i E = true := decide_eq_true hd
  rw [eS]
  refine ⟨out, H, ?_, hfr, ho⟩
  rw [z_loop4]
  simp only [f40_l1, (hm.fr hfr).len, hlm, n_lss, decide_eq_false hlt, z_cond, cond_false, z_rest ho.good]
 | m + 1, i, fuel, H, out, him, hf, hfr, ho, hd => by
  obtain ⟨fuel, rfl⟩ := suc hf
  have hlt : i < n := by omega
  have hlm : (sqM n E).length = n := by simp [sqM]
  rw [z_loop4]
  simp only [f40_l1, (hm.fr hfr).len, hlm, n_lss, decide_eq_true hlt, z_cond, cond_true]
  rw [show (SV.int .i64 0) = i64 0 from rfl]
  rcases small7_in K hK d hfr hn hE hm hfr.size hlt ho (slow.loop4 (f40_l1 slow K (runQ wk tab slow K (d + 2))) fuel) n 0 K H (.slice nilSl) (by omega) (by omega) (Fr.refl _ _) (by simpa [intsL] using Own.nil _ _) (fun q hq => absurd hq (Nat.not_lt_zero q)) with ⟨H', h2, f2, q, hq, hb⟩ | ⟨out', H2, h2, f2, o2, hall⟩
  ·have eS : smallM n E = false := decide_eq_false fun hh => by
    rw [hh i hlt q hq] at hb
    cases hb
   rw [eS]
   exact ⟨_, H', h2, Frame.trans hfr f2, OwnRR.nil _ _⟩
  ·obtain ⟨v, H3, h3, g3⟩ := small7_out K hK d hn hE hm m (i + 1) fuel H2 out' (by omega) (by omega) (Fr.trans hfr f2) o2 fun p hp q hq => by
    by_cases ep : p = i
    ·subst ep; exact hall q hq
    ·exact hd p (by omega) q hq
   exact ⟨v, H3, h2.trans h3, g3⟩
theorem small7_ok (K : Nat) (hK : 3000000 < K) (d : Nat) (H : Heap) (hn : n <= 8) (hE : ∀ i j, i < n -> j < n -> (rdigs (E i j).natAbs).length < 1000000) (hm : IsRRows lm H vm (sqM n E)) :
  ∃ v H', runQ wk tab slow K (d + 3) 40 [vm, .int .i64 16384] H = some (.tuple [v, .bool (smallM n E)], H') /\ Frame H H' /\ OwnRR H.size H' v (if smallM n E then sqM n E else []) := by
 exact small7_out K hK d hn hE hm n 0 K H (.slice nilSl) (by omega) (by omega) (Fr.refl _ _) (by simpa using OwnRR.nil _ _) (fun p hp => absurd hp (Nat.not_lt_zero p))
end Go.Sh.Of

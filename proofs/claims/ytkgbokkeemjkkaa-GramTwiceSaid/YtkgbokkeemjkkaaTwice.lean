/- GramTwice: the walk. -/
import Derived.Test.YtkgbokkeemjkkaaChg
import Derived.Test.YtkgbokkeemjkkaaNorm
set_option linter.unusedVariables false
set_option linter.unusedSimpArgs false
namespace Go.Sh.Of
open Go Go.Sh

theorem big_mul {a b p q : Nat} (ha : a ≤ 2 ^ p) (hb : b ≤ 2 ^ q) (h : p + q ≤ 4000) : a * b < 2 ^ 4096 := by
  have h1 := Nat.mul_le_mul ha hb
  rw [← Nat.pow_add] at h1
  exact Nat.lt_of_le_of_lt h1 (Nat.lt_of_lt_of_le (Nat.pow_lt_pow_right (show 1 < 2 by decide) (Nat.lt_succ_self (p + q))) (pow_mono2 _ 4096 (by omega)))
theorem pw8 {a p n : Nat} (h : a ≤ 2 ^ p) (hn : n ≤ 8) : ∃ e, e = p * 8 ∧ a ^ n ≤ 2 ^ e := ⟨p * 8, rfl, Nat.le_trans (Nat.pow_le_pow_left h n) (by rw [← Nat.pow_mul]; exact Nat.pow_le_pow_right (by decide) (Nat.mul_le_mul_left _ hn))⟩
theorem z_lay4 {H : Heap} {lo : Nat} (hl : lo ≤ H.size) (z z' z'' z3 : SV) {x y w u : SV} (hx : x.flat = true) (hy : y.flat = true) (hw : w.flat = true) (hu : u.flat = true) :
    ∃ v H', (∀ k, slow.hbuild 1 [z, z', z'', z3] [(0, 1), (1, 1), (2, 1), (3, 1)] [x, y, w, u] H k = k v H') ∧ Own lo H' v [x, y, w, u] ∧ Frame H H' := by
  have hit : x.item = true := by cases x <;> simp_all [SV.item, SV.flat]
  have hce : x.cells = [x] := by cases x <;> simp_all [SV.cells, SV.flat]
  have hit' : y.item = true := by cases y <;> simp_all [SV.item, SV.flat]
  have hce' : y.cells = [y] := by cases y <;> simp_all [SV.cells, SV.flat]
  have hit2 : w.item = true := by cases w <;> simp_all [SV.item, SV.flat]
  have hce2 : w.cells = [w] := by cases w <;> simp_all [SV.cells, SV.flat]
  have hit3 : u.item = true := by cases u <;> simp_all [SV.item, SV.flat]
  have hce3 : u.cells = [u] := by cases u <;> simp_all [SV.cells, SV.flat]
  refine ⟨.slice ⟨some (H.size, 0), 4, none, 0⟩, H.push (newRow 1 [x, y, w, u]), fun k => ?_, ⟨some (H.size, 0), rfl, .inr ⟨H.size, 0, rfl, hl, Heap.get_push_self _ _⟩⟩, Fr.push (Nat.le_refl _) _⟩
  show (opE (.build 1 [z, z', z'', z3] [(0, 1), (1, 1), (2, 1), (3, 1)]) [x, y, w, u] H).bind _ = _
  simp only [opE, List.length_cons, List.length_nil, List.zip_cons_cons, List.zip_nil_right, List.map_cons, List.map_nil, fillS, hit, hce, hit', hce', hit2, hce2, hit3, hce3]
  rfl
def prodM (A B : List (List Int)) : List (List Int) := if mulE A B = 0 then mulM A B else []
theorem prodM_good {A B : List (List Int)} (ha : Good A) (hb : Good B) : Good (prodM A B) := by
  unfold prodM
  split
  · rename_i h; exact mulM_good ha hb h
  · exact Good.nil
theorem mul_w (K : Nat) (hK : 1000000 < K) (d : Nat) (H : Heap) {w w' : SV} {A B : List (List Int)} (hv : IsMat H (.agg [w]) A) (hv' : IsMat H (.agg [w']) B) (ha : Good A) (hb : Good B) : ∃ u H', runQ wk tab slow K (d + 20) 23 [.agg [w], .agg [w']] H = some (.tuple [.agg [u], .int .i64 (mulE A B)], H') ∧ Frame H H' ∧ IsMat H' (.agg [u]) (prodM A B) := by
  obtain ⟨r, H1, h1, f1, hm⟩ := mmul_ok K (by omega) (d + 10) H hv hv' ha hb
  have hm' := hm.mat
  obtain ⟨u, rfl, _⟩ := hm'
  exact ⟨u, H1, h1, f1, hm.mat⟩
/-- Rows that are let in are a matrix. -/
theorem of_good {U : List (List Int)} (h : ofErr U = 0) (hi : ∀ r ∈ U, ∀ z ∈ r, I64 z) : Good U ∧ ofMat U = U := by
  have hb : shapedB (U.map List.length) = true := by
    unfold ofErr at h
    split at h
    · assumption
    · cases h
  have e : ofMat U = U := by unfold ofMat; rw [if_pos hb]
  refine ⟨?_, e⟩
  rcases shapedB_iff.1 hb with h1 | ⟨h1, h2⟩
  · rw [h1]; exact Good.nil
  · refine ⟨fun r hr => (h2 r hr).2.2, fun hne => ?_, h1, fun r hr z hz => small_pow (Nat.le_trans (i64_abs (hi r hr z hz)) (by decide))⟩
    cases U with
    | nil => exact absurd rfl hne
    | cons r U =>
      have := h2 r (by simp)
      have e : colsOf (r :: U) = r.length := by simp [colsOf]
      omega
theorem of_w (K : Nat) (hK : 1000000 < K) (d : Nat) (H : Heap) {v : SV} {U : List (List Int)} (hv : IsInts2 H v U) (hi : ∀ r ∈ U, ∀ z ∈ r, I64 z) (hl : U.length < 100000) : ∃ w H', runQ wk tab slow K (d + 20) 12 [v] H = some (.tuple [.agg [w], .int .i64 (ofErr U)], H') ∧ Frame H H' ∧ IsMat H' (.agg [w]) (ofMat U) := by
  obtain ⟨r, H', h1, f1, m1⟩ := mof_ok K (by omega) (d + 14) H hv hi hl
  have m1' := m1.mat
  obtain ⟨w, rfl, _⟩ := m1'
  exact ⟨w, H', h1, f1, m1.mat⟩
theorem ent_le {U : List (List Int)} (hg : Good U) {b : Nat} (hi : ∀ r ∈ U, ∀ z ∈ r, z.natAbs ≤ b) : EntLe U b := fun i j h1 h2 => by
  obtain ⟨r, e1, e2, _⟩ := hg.at h1 h2
  exact hi r (List.mem_of_getElem? e1) _ (List.mem_of_getElem? e2)
theorem le_ent {U : List (List Int)} (hg : Good U) {b : Nat} (h : EntLe U b) : ∀ r ∈ U, ∀ z ∈ r, z.natAbs ≤ b := fun r hr z hz => by
  obtain ⟨i, hi⟩ := List.getElem?_of_mem hr
  obtain ⟨j, hj⟩ := List.getElem?_of_mem hz
  have e := h i j (List.getElem?_eq_some_iff.1 hi).1 (by rw [← hg.rect r hr]; exact (List.getElem?_eq_some_iff.1 hj).1)
  rw [ent_get hi hj] at e
  exact e
/-- Entries of a product. -/
theorem mul_le {A B : List (List Int)} {p q n : Nat} (hA : EntLe A p) (hB : EntLe B q) (hc : colsOf A = B.length) (hn : colsOf A ≤ n) (h0 : 0 < A.length) : EntLe (mulM A B) (n * (p * q)) := fun i j hi hj => by
  have hl : (mulM A B).length = A.length := matOfE_len _ _ _
  have hcc : colsOf (mulM A B) = colsOf B := colsOf_matOfE h0
  rw [hl] at hi
  rw [hcc] at hj
  rw [show ent (mulM A B) i j = dotE A B i j from ent_matOfE hi hj, dotE_mulX]
  refine Nat.le_trans (natAbs_sum (b := p * q) fun t ht => ?_) (Nat.mul_le_mul_right _ hn)
  rw [Int.natAbs_mul]
  exact Nat.mul_le_mul (hA i t hi ht) (hB t j (by omega) hj)
theorem tr_le {U : List (List Int)} {b : Nat} (hU : EntLe U b) (h0 : 0 < colsOf U) : EntLe (trM U) b := fun i j hi hj => by
  have hl : (trM U).length = colsOf U := matOfE_len _ _ _
  have hc : colsOf (trM U) = U.length := colsOf_matOfE h0
  rw [hl] at hi
  rw [hc] at hj
  rw [show ent (trM U) i j = ent U j i from ent_matOfE (E := fun i j => ent U j i) hi hj]
  exact hU j i hj hi
/-- Changed by the product is changed twice. -/
theorem chg_twice {A U V : List (List Int)} (hu : Good U) (hv : Good V) (iu : ∀ r ∈ U, ∀ z ∈ r, I64 z) (iv : ∀ r ∈ V, ∀ z ∈ r, I64 z) (h1 : chgE A U = 0) (h2 : chgE (chgM A U) V = 0) (h3 : mulE V U = 0) : chgE A (mulM V U) = 0 ∧ chgM A (mulM V U) = chgM (chgM A U) V := by
  obtain ⟨e0, e1, e2, e3, e4, e5, e6, e7, e8⟩ := chgE_zero h1
  obtain ⟨g0, g1, g2, g3, g4, g5, g6, g7, g8⟩ := chgE_zero h2
  obtain ⟨hF, l, he⟩ := chg_form hu h1
  have hA := chk_form.1 e0
  have hs := hA.sq
  have h0 := hs.n0
  have h8 := hs.n8
  rw [l] at g1 g2
  obtain ⟨l2, c2, he2⟩ := chgM_ent (A := chgM A U) (U := V) hF.sq (by omega) (by omega)
  rw [l] at l2 c2 he2
  have lP : (mulM V U).length = A.length := (matOfE_len _ _ _).trans g1
  have cP : colsOf (mulM V U) = A.length := by unfold mulM; rw [colsOf_matOfE (by omega), e2]
  have gP := mulM_good hv hu h3
  have bU := ent_le hu fun r hr z hz => i64_abs (iu r hr z hz)
  have bV := ent_le hv fun r hr z hz => i64_abs (iv r hr z hz)
  have bA := ent_le hs.good (b := 16384) fun r hr z hz => by have := hs.sm r hr z hz; omega
  have bP := mul_le bV bU (n := 8) (by omega) (by omega) (by omega)
  have hwP : sqE (mulM V U) = 0 := not_wide lP cP (w := 130) (fun r hr z hz => Nat.lt_of_le_of_lt (le_ent gP bP r hr z hz) (by decide)) h8 (by omega)
  have entP : ∀ i j, i < A.length → j < A.length → ent (mulM V U) i j = mulX A.length (ent V) (ent U) i j := fun i j hi hj => by
    rw [show ent (mulM V U) i j = dotE V U i j from ent_matOfE (by omega) (by omega), dotE_mulX, g2]
  have hdP : detR (mulM V U) ≠ 0 := by
    rw [detR_det' (by omega)] at e4 g4 ⊢
    rw [lP, det_congr entP, det_mul]
    rw [e1] at e4
    rw [g1] at g4
    intro h
    rcases Int.mul_eq_zero.1 h with h | h
    · exact g4 h
    · exact e4 h
  have m1 : mulE (mulM V U) A = 0 := mulE_zero bP bA (by rw [cP]) (by
    refine small_pow (Nat.le_trans (Nat.mul_le_mul_right _ (show colsOf (mulM V U) ≤ 8 by omega)) (by decide)))
  have gPA := mulM_good gP hs.good m1
  have bPA := mul_le bP bA (n := 8) (by rw [cP]) (by omega) (by omega)
  have cPA : colsOf (mulM (mulM V U) A) = A.length := by unfold mulM; rw [colsOf_matOfE (by rw [matOfE_len]; omega), hs.cols]
  have bT := tr_le bP (by omega)
  have lT : (trM (mulM V U)).length = A.length := (matOfE_len _ _ _).trans cP
  have m2 : mulE (mulM (mulM V U) A) (trM (mulM V U)) = 0 := mulE_zero bPA bT (by rw [cPA, lT]) (by
    have q1 : colsOf (mulM (mulM V U) A) * (8 * (8 * (9223372036854775808 * 9223372036854775808) * 16384)) ≤ 2 ^ 160 := Nat.le_trans (Nat.mul_le_mul_right _ (show colsOf (mulM (mulM V U) A) ≤ 8 by omega)) (by decide)
    rw [← Nat.mul_assoc]
    exact big_mul q1 (q := 160) (by decide) (by decide))
  obtain ⟨l3, c3, he3⟩ := chgM_ent hs lP cP
  have gQ : Good (chgM A (mulM V U)) := mulM_good gPA (trM_good gP) m2
  have gQ2 : Good (chgM (chgM A U) V) := mulM_good (mulM_good hv hF.sq.good g5) (trM_good hv) g6
  have same : chgM A (mulM V U) = chgM (chgM A U) V := Good.ext gQ gQ2 (by rw [l3, l2]) (by rw [c3, c2]) fun i j hi hj => by
    rw [l3] at hi
    rw [c3] at hj
    rw [he3 i j hi hj, he2 i j hi hj]
    have a1 : chM A.length (ent A) (ent (mulM V U)) i j = chM A.length (ent A) (mulX A.length (ent V) (ent U)) i j := by
      rw [chM_eq, chM_eq]
      exact bil_congr (fun _ _ _ _ => rfl) (fun t ht => entP i t hi ht) fun t ht => entP j t hj ht
    have a2 : chM A.length (ent (chgM A U)) (ent V) i j = chM A.length (chM A.length (ent A) (ent U)) (ent V) i j := by
      rw [chM_eq, chM_eq]
      exact bil_congr (fun x y hx hy => he x y hx hy) (fun _ _ => rfl) fun _ _ => rfl
    rw [a1, a2, chM_twice]
  refine ⟨?_, same⟩
  unfold chgE
  rw [if_neg (fun h => h e0), if_neg (fun h => h lP), if_neg (fun h => h cP), if_neg (fun h => h hwP), if_neg hdP, if_neg (fun h => h m1), if_neg (fun h => h m2), same, if_pos g7, if_pos g8]
/-! ### The last: norms go with it -/
theorem twice_j22 (K : Nat) (hK : 1000000 < K) (d : Nat) (H : Heap) {va vx vb wm : SV} {A U : List (List Int)} {x : List Int} (ha : IsInts2 H va A) (hx : Arr H vx (intsL .i64 x)) (ix : ∀ z ∈ x, I64 z) (hm : IsMat H (.agg [wm]) U) (hu : Good U) (hb : IsInts2 H vb (chgM A U)) (h0 : chgE A U = 0) :
    ∃ H', f5_j22 slow K (runQ wk tab slow K (d + 30)) va vx (.box [wm]) vb H = some (.bool true, H') := by
  obtain ⟨e0, e1, e2, e3, e4, e5, e6, e7, e8⟩ := chgE_zero h0
  obtain ⟨hF, l, he⟩ := chg_form hu h0
  have hA := chk_form.1 e0
  have n0 := hA.sq.n0
  have n8 := hA.sq.n8
  have lx : ∀ k, slow.len vx k = k (i64 x.length) := fun k => by rw [hx.len]; simp [intsL]
  simp only [f5_j22, lx, ints_len ha, n_neq, z_cond]
  by_cases ex : x.length = A.length
  · have nx : ¬ x.length ≠ A.length := fun h => h ex
    rw [decide_eq_false nx, cond_false]
    obtain ⟨t, H1, h1, o1, f1, _, _⟩ := z_lay1 (H := H) (lo := H.size) (Nat.le_refl _) (.slice nilSl) hx.flat
    have hrow : IsInts2 H1 t [x] := IntsW.to (ws := [vx]) ⟨o1.arr, rfl, fun i w' r hw1 hr => by
      match i with
      | 0 => simp at hw1 hr; subst hw1 hr; exact hx.fr f1
      | n + 1 => simp at hw1⟩
    have ix' : ∀ r ∈ [x], ∀ z ∈ r, I64 z := fun r hr => by rw [List.mem_singleton.1 hr]; exact ix
    have hof : ofErr [x] = 0 := by
      have : shapedB ([x].map List.length) = true := shapedB_iff.2 (.inr ⟨by simp, fun r hr => by
        rw [List.mem_singleton.1 hr]
        have e : colsOf [x] = x.length := by simp [colsOf]
        omega⟩)
      unfold ofErr
      rw [this]
      rfl
    obtain ⟨gx, ex2⟩ := of_good hof ix'
    obtain ⟨w, H2, h2, f2, m2⟩ := of_w K hK (d + 10) H1 hrow ix' (by simp)
    rw [hof] at h2
    rw [ex2] at m2
    have F2 := Frame.trans f1 f2
    obtain ⟨y, H3, h3, f3, m3⟩ := mul_w K hK (d + 10) H2 m2 (hm.fr F2) gx hu
    have gy := prodM_good gx hu
    obtain ⟨out, H4, h4, f4, i4, j4⟩ := mi64_ok K (by omega) (d + 27) H3 m3 gy
    rw [show d + 27 + 3 = d + 30 from rfl] at h4
    have F4 := Frame.trans F2 (Frame.trans f3 f4)
    have stop : f5_j24 slow K (runQ wk tab slow K (d + 30)) va vx vb out (.bool true) H4 = some (.bool true, H4) := rfl
    have c0 : ((0 : Int) != 0) = false := rfl
    simp only [h1, h2, h3, h4, z_call, z_ext0, z_ext1, z_bst1, z_lload1, z_neq, c0, z_guard, cond_false]
    by_cases e9 : mulE [x] U = 0
    · have b9 : (mulE [x] U != 0) = false := by simp [e9]
      rw [b9]
      cases e10 : allFit (prodM [x] U) with
      | false =>
        refine ⟨H4, ?_⟩
        simp only [z_not, Bool.not_false, cond_false]
        exact stop
      | true =>
        have iout := i4 e10
        have ep : prodM [x] U = mulM [x] U := if_pos e9
        rw [ep] at iout e10 gy
        -- the row
        have cx : colsOf [x] = A.length := by simp [colsOf]; exact ex
        obtain ⟨r0, hr0, hl0, hv0⟩ : ∃ r0, (mulM [x] U)[0]? = some r0 ∧ r0.length = A.length ∧ ∀ k, k < A.length → vecF r0 k = rowM A.length (vecF x) (ent U) k := by
          refine ⟨rowOfE (dotE [x] U) (colsOf U) 0, matOfE_get (by simp), by rw [rowOfE_len, e2], fun k hk => ?_⟩
          rw [vecF_get (rowOfE_get (by omega)), dotE_mulX, cx]
          refine sumZ_congr fun t ht => ?_
          obtain ⟨z, hz⟩ : ∃ z, x[t]? = some z := ⟨_, List.getElem?_eq_getElem (by omega)⟩
          rw [show ent [x] 0 t = z from ent_get (r := x) rfl hz, vecF_get hz]
        have ir0 : ∀ z ∈ r0, I64 z := fun z hz => by
          have := List.all_eq_true.1 e10 r0 (List.mem_of_getElem? hr0)
          exact fits64_iff.1 (List.all_eq_true.1 this z hz)
        obtain ⟨ws, hW⟩ := IntsW.of iout
        obtain ⟨w0, hw0⟩ : ∃ w, ws[0]? = some w := ⟨_, List.getElem?_eq_getElem (by rw [hW.2.1]; exact (List.getElem?_eq_some_iff.1 hr0).1)⟩
        have ar0 := hW.2.2 0 w0 r0 hw0 hr0
        obtain ⟨H5, h5, f5⟩ := gnorm_ok K hK (d + 18) H4 (IsRowsC.fr hb F4) (hx.fr F4) ix
        rw [show d + 18 + 12 = d + 30 from rfl] at h5
        have ld : ∀ k, slow.idx 1 out (.int .i64 0) (fun p => slow.load 1 false p H5 k) = k w0 := fun k => (hW.1.fr f5).load (i := 0) hw0 .i64 k
        obtain ⟨H6, h6, f6⟩ := gnorm_ok K hK (d + 18) H5 (IsRowsC.fr ha (Frame.trans F4 f5)) (ar0.fr f5) ir0
        rw [show d + 18 + 12 = d + 30 from rfl] at h6
        have hcB : chkE (chgM A U) = 0 := chk_form.2 hF
        have hbil : bilL (chgM A U) x x = bilL A r0 r0 := by
          unfold bilL
          rw [l]
          have a1 : bil A.length (ent (chgM A U)) (vecF x) (vecF x) = bil A.length (chM A.length (ent A) (ent U)) (vecF x) (vecF x) := bil_congr (fun i j hi hj => he i j hi hj) (fun _ _ => rfl) fun _ _ => rfl
          rw [a1, bil_ch]
          exact (bil_congr (fun _ _ _ _ => rfl) hv0 hv0).symm
        have hE : gdotE (chgM A U) x x = gdotE A r0 r0 ∧ gdotN (chgM A U) x x = gdotN A r0 r0 := by
          have a : gprE (chgM A U) x x = gprE A r0 r0 := by
            unfold gprE
            rw [if_neg (show ¬ x.length ≠ (chgM A U).length from fun h => h (by rw [l]; exact ex)), if_neg (show ¬ x.length ≠ (chgM A U).length from fun h => h (by rw [l]; exact ex)), if_neg (show ¬ r0.length ≠ A.length from fun h => h hl0), if_neg (show ¬ r0.length ≠ A.length from fun h => h hl0), hbil]
          unfold gdotE gdotN gprN
          rw [hcB, e0, a, hbil]
          exact ⟨rfl, rfl⟩
        rw [hE.1, hE.2] at h5
        refine ⟨H6, ?_⟩
        simp only [z_not, Bool.not_true, cond_false, f5_j24, z_cond, h5, z_call, z_ext0, z_ext1, ld, h6, z_eql, beq_self_eq_true, z_guard, cond_true, f5_j26, z_rest_bool]
    · have b9 : (mulE [x] U != 0) = true := by simp [e9]
      rw [b9, cond_true]
      exact ⟨H4, stop⟩
  · rw [decide_eq_true (show x.length ≠ A.length from ex), cond_true]
    exact ⟨H, rfl⟩
/-! ### Both are the same -/
theorem twice_in (K : Nat) (hK : 1000000 < K) (d : Nat) {H : Heap} {va vx vm vb vc vo : SV} {C : List (List Int)} (hc : IsInts2 H vc C) (ho : IsInts2 H vo C) {i : Nat} {r : List Int} (hr : C[i]? = some r) (hi : i < 1000) (hrl : r.length < 1000) (k97 : SV → SV → SV → SV → SV → SV → SV → SV → Heap → Rs) : ∀ (m j fuel : Nat), j + m = r.length → m < fuel →
    slow.loop11 (f5_l15 slow K (runQ wk tab slow K (d + 30)) k97) fuel va vx vm vb vc vo (i64 i) (i64 C.length) (i64 i) (i64 r.length) (i64 j) H = k97 va vx vm vb vc vo (i64 C.length) (i64 (i + 1)) H
  | 0, j, fuel, hjm, hf => by
    obtain ⟨fuel, rfl⟩ : ∃ q, fuel = q + 1 := ⟨fuel - 1, by omega⟩
    have hlt : ¬ j < r.length := by omega
    rw [z_loop11]
    simp only [f5_l15, n_lss, decide_eq_false hlt, z_cond, cond_false, w_inc (show i < 1000000 by omega)]
  | m + 1, j, fuel, hjm, hf => by
    obtain ⟨fuel, rfl⟩ : ∃ q, fuel = q + 1 := ⟨fuel - 1, by omega⟩
    have hlt : j < r.length := by omega
    obtain ⟨z, hz⟩ : ∃ z, r[j]? = some z := ⟨_, List.getElem?_eq_getElem hlt⟩
    obtain ⟨w, l1, l2⟩ := ints_entry hc hr hz
    obtain ⟨w', l3, l4⟩ := ints_entry ho hr hz
    rw [z_loop11]
    simp only [f5_l15, n_lss, decide_eq_true hlt, z_cond, cond_true, l1, l2, l3, l4, z_neq, bne_self_eq_false, cond_false, w_inc (show j < 1000000 by omega)]
    exact twice_in K hK d hc ho hr hi hrl k97 m (j + 1) fuel (by omega) (by omega)
theorem twice_out (K : Nat) (hK : 1000000 < K) (d : Nat) {H : Heap} {va vx wm vb vc vo : SV} {A U C : List (List Int)} {x : List Int} (ha : IsInts2 H va A) (hx : Arr H vx (intsL .i64 x)) (ix : ∀ z ∈ x, I64 z) (hm : IsMat H (.agg [wm]) U) (hu : Good U) (hb : IsInts2 H vb (chgM A U)) (h0 : chgE A U = 0) (hc : IsInts2 H vc C) (ho : IsInts2 H vo C) (hl : C.length < 1000) (hrl : ∀ r ∈ C, r.length < 1000) : ∀ (m i fuel : Nat), i + m = C.length → m < fuel →
    ∃ H', slow.loop8 (f5_l13 slow K (runQ wk tab slow K (d + 30))) fuel va vx (.box [wm]) vb vc vo (i64 C.length) (i64 i) H = some (.bool true, H')
  | 0, i, fuel, him, hf => by
    obtain ⟨fuel, rfl⟩ : ∃ q, fuel = q + 1 := ⟨fuel - 1, by omega⟩
    have hlt : ¬ i < C.length := by omega
    obtain ⟨H', h1⟩ := twice_j22 K hK d H ha hx ix hm hu hb h0
    refine ⟨H', ?_⟩
    rw [z_loop8]
    simp only [f5_l13, n_lss, decide_eq_false hlt, z_cond, cond_false]
    exact h1
  | m + 1, i, fuel, him, hf => by
    obtain ⟨fuel, rfl⟩ : ∃ q, fuel = q + 1 := ⟨fuel - 1, by omega⟩
    have hlt : i < C.length := by omega
    obtain ⟨r, hr⟩ : ∃ r, C[i]? = some r := ⟨_, List.getElem?_eq_getElem hlt⟩
    have hrr := hrl r (List.mem_of_getElem? hr)
    obtain ⟨ws, hW⟩ := IntsW.of hc
    obtain ⟨w, hw⟩ : ∃ w, ws[i]? = some w := ⟨_, List.getElem?_eq_getElem (by rw [hW.2.1]; exact hlt)⟩
    have hwl : ∀ k, slow.len w k = k (i64 r.length) := fun k => by rw [(hW.2.2 i w r hw hr).len]; simp [intsL]
    have l1 : ∀ k, slow.idx 1 vc (i64 i) (fun p => slow.load 1 false p H k) = k w := fun k => hW.1.load hw .i64 k
    obtain ⟨H', h2⟩ := twice_out K hK d ha hx ix hm hu hb h0 hc ho hl hrl m (i + 1) fuel (by omega) (by omega)
    refine ⟨H', ?_⟩
    rw [z_loop8]
    simp only [f5_l13, n_lss, decide_eq_true hlt, z_cond, cond_true, l1, hwl]
    rw [show (SV.int .i64 0) = i64 0 from rfl, twice_in K hK d hc ho hr (by omega) hrr (slow.loop8 (f5_l13 slow K (runQ wk tab slow K (d + 30))) fuel) r.length 0 K (by omega) (by omega)]
    exact h2
/-- The second change. -/
theorem twice_j8 (K : Nat) (hK : 1000000 < K) (d : Nat) (H : Heap) {va vx vb wm wn : SV} {A U V : List (List Int)} {x : List Int} (ha : IsInts2 H va A) (hx : Arr H vx (intsL .i64 x)) (ix : ∀ z ∈ x, I64 z) (hm : IsMat H (.agg [wm]) U) (hu : Good U) (iu : ∀ r ∈ U, ∀ z ∈ r, I64 z) (hn : IsMat H (.agg [wn]) V) (hv : Good V) (iv : ∀ r ∈ V, ∀ z ∈ r, I64 z) (hb : IsInts2 H vb (chgM A U)) (h0 : chgE A U = 0) :
    ∃ H', f5_j8 slow K (runQ wk tab slow K (d + 30)) va vx (.box [wm]) (.box [wn]) vb (.bool false) H = some (.bool true, H') := by
  obtain ⟨c, H1, h1, f1, i1⟩ := chg_ok K hK (d + 9) H hb hn hv
  rw [show d + 9 + 21 = d + 30 from rfl] at h1
  obtain ⟨p, H2, h2, f2, m2⟩ := mul_w K hK (d + 10) H1 (hn.fr f1) (hm.fr f1) hv hu
  have F2 := Frame.trans f1 f2
  have gp := prodM_good hv hu
  simp only [f5_j8, z_cond, cond_false, z_lload1, h1, z_call, z_ext0, z_ext1, h2, z_bst1, z_eql, z_guard]
  have rest : ∃ H', f5_j22 slow K (runQ wk tab slow K (d + 30)) va vx (.box [wm]) vb H2 = some (.bool true, H') := twice_j22 K hK d H2 (IsRowsC.fr ha F2) (hx.fr F2) ix (hm.fr F2) hu (IsRowsC.fr hb F2) h0
  by_cases e1 : chgE (chgM A U) V = 0
  · have b1 : (chgE (chgM A U) V == 0) = true := by simp [e1]
    rw [b1, cond_true]
    by_cases e2 : mulE V U = 0
    · have b2 : (mulE V U == 0) = true := by simp [e2]
      rw [b2]
      rw [if_pos e1] at i1
      have ep : prodM V U = mulM V U := if_pos e2
      rw [ep] at m2 gp
      obtain ⟨t1, t2⟩ := chg_twice hu hv iu iv h0 e1 e2
      obtain ⟨o, H3, h3, f3, i3⟩ := chg_ok K hK (d + 9) H2 (IsRowsC.fr ha F2) m2 gp
      rw [show d + 9 + 21 = d + 30 from rfl, t1] at h3
      rw [if_pos t1, t2] at i3
      have F3 := Frame.trans F2 f3
      have i1' : IsInts2 H3 c (chgM (chgM A U) V) := IsRowsC.fr i1 (Frame.trans f2 f3)
      have hFV := (chg_form hv e1).1
      have hFV8 := hFV.sq.n8
      obtain ⟨H4, h4⟩ := twice_out K hK d (IsRowsC.fr ha F3) (hx.fr F3) ix (hm.fr F3) hu (IsRowsC.fr hb F3) h0 i1' i3 (by omega) (fun r hr => by have := hFV.sq.sq r hr; omega) (chgM (chgM A U) V).length 0 K (by omega) (by omega)
      have c0 : ((0 : Int) != 0) = false := rfl
      refine ⟨H4, ?_⟩
      simp only [f5_j10, z_cond, cond_true, z_lload1, h3, z_call, z_ext0, z_ext1, z_neq, c0, z_guard, cond_false, ints_len i3, ints_len i1', bne_self_eq_false, f5_j11]
      exact h4
    · have b2 : (mulE V U == 0) = false := by simp [e2]
      rw [b2]
      obtain ⟨H', h5⟩ := rest
      refine ⟨H', ?_⟩
      simp only [f5_j10, z_cond, cond_false]
      exact h5
  · have b1 : (chgE (chgM A U) V == 0) = false := by simp [e1]
    rw [b1, cond_false]
    obtain ⟨H', h5⟩ := rest
    refine ⟨H', ?_⟩
    simp only [f5_j10, z_cond, cond_false]
    exact h5
/-- The determinant grows by the square. -/
theorem twice_j6 (K : Nat) (hK : 1000000 < K) (d : Nat) (H : Heap) {va vx vb wm wn dx dy pb pd : SV} {A U V : List (List Int)} {x : List Int} (ha : IsInts2 H va A) (hx : Arr H vx (intsL .i64 x)) (ix : ∀ z ∈ x, I64 z) (hm : IsMat H (.agg [wm]) U) (hu : Good U) (iu : ∀ r ∈ U, ∀ z ∈ r, I64 z) (hn : IsMat H (.agg [wn]) V) (hv : Good V) (iv : ∀ r ∈ V, ∀ z ∈ r, I64 z) (hb : IsInts2 H vb (chgM A U)) (h0 : chgE A U = 0) (hd : IsInt H (.agg [dx, dy]) (detR U)) (hpb : IsNat H (.agg [pb]) (det A.length (ent A)).natAbs) (hpd : IsNat H (.agg [pd]) (det (chgM A U).length (ent (chgM A U))).natAbs) :
    ∃ H', f5_j6 slow K (runQ wk tab slow K (d + 30)) va vx (.box [wm]) (.box [wn]) vb (.box [dx, dy]) (.box [pb]) (.box [pd]) (.bool false) H = some (.bool true, H') := by
  obtain ⟨e0, e1, e2, e3, e4, e5, e6, e7, e8⟩ := chgE_zero h0
  obtain ⟨hF, l, he⟩ := chg_form hu h0
  have hA := chk_form.1 e0
  have n0 := hA.sq.n0
  have n8 := hA.sq.n8
  have bU := ent_le hu fun r hr z hz => i64_abs (iu r hr z hz)
  obtain ⟨e, he', pU⟩ := pw8 (a := 8 * 9223372036854775808) (p := 66) (n := A.length) (by decide) n8
  obtain ⟨f, hf', pA⟩ := pw8 (a := 8 * 16384) (p := 17) (n := A.length) (by decide) n8
  have dU : (detR U).natAbs ≤ 2 ^ e := by
    rw [detR_det' (by omega), e1]
    exact Nat.le_trans (det_abs (N := 8) (c := 9223372036854775808) n8 fun i k hi hk => bU i k (by omega) (by omega)) pU
  have dA : (det A.length (ent A)).natAbs ≤ 2 ^ f :=
    Nat.le_trans (det_abs (N := 8) (c := 16384) n8 fun i k hi hk => by obtain ⟨_, _, _, h⟩ := hA.sq.at hi hk; omega) pA
  have big : ∀ {m k : Nat}, m ≤ 2 ^ k → k ≤ 4000 → m < 2 ^ 4096 := fun {m k} h hk => Nat.lt_of_le_of_lt h (Nat.lt_of_lt_of_le (Nat.pow_lt_pow_right (show 1 < 2 by decide) (Nat.lt_succ_self k)) (pow_mono2 _ 4096 (by omega)))
  have sq1 : (detR U).natAbs * (detR U).natAbs ≤ 2 ^ (e + e) := by
    rw [Nat.pow_add]
    exact Nat.mul_le_mul dU dU
  have sq2 : (detR U).natAbs * (detR U).natAbs * (det A.length (ent A)).natAbs ≤ 2 ^ (e + e + f) := by
    rw [Nat.pow_add]
    exact Nat.mul_le_mul sq1 dA
  have hdet : (det (chgM A U).length (ent (chgM A U))).natAbs = (detR U).natAbs * (detR U).natAbs * (det A.length (ent A)).natAbs := by
    rw [l, det_congr he, chM_det, Int.natAbs_mul, Int.natAbs_mul, detR_det' (by omega), e1]
  rw [hdet] at hpd
  obtain ⟨x1, h1, n1⟩ := zabs_ok K (d + 29) H hd
  have bu := big dU (by omega)
  have b1 := big sq1 (by omega)
  have b2 := big sq2 (by omega)
  have ba := big dA (by omega)
  obtain ⟨s, H1, h2, f1, n2⟩ := mul_nat_ok K (d + 26) H n1 n1 (by omega) bu bu
  rw [show d + 26 + 4 = d + 30 from rfl, if_pos b1] at h2
  rw [if_pos b1] at n2
  have n2' := n2
  obtain ⟨s', e9, _⟩ := n2
  subst e9
  obtain ⟨w, H2, h3, f2, n3⟩ := mul_nat_ok K (d + 26) H1 n2' (hpb.fr f1) (by omega) b1 ba
  rw [show d + 26 + 4 = d + 30 from rfl, if_pos b2] at h3
  rw [if_pos b2] at n3
  have F2 := Frame.trans f1 f2
  have hdl := dg_len b2
  have h4 := cmp_ok K (d + 29) H2 n3 (hpd.fr F2) (by clear bu b1 b2 ba sq1 sq2 dU dA; omega) (by clear bu b1 b2 ba sq1 sq2 dU dA; omega)
  have hc0 : ∀ a : Nat, cmpN a a = 0 := fun a => by unfold cmpN; rw [if_neg (Nat.lt_irrefl a), if_neg (Nat.lt_irrefl a)]
  rw [hc0, show d + 29 + 1 = d + 30 from rfl] at h4
  obtain ⟨w', e10, _⟩ := n3
  subst e10
  obtain ⟨H3, h5⟩ := twice_j8 K hK d H2 (IsRowsC.fr ha F2) (hx.fr F2) ix (hm.fr F2) hu iu (hn.fr F2) hv iv (IsRowsC.fr hb F2) h0
  have c0 : ((0 : Int) != 0) = false := rfl
  refine ⟨H3, ?_⟩
  simp only [f5_j6, z_cond, cond_false, z_lload2, h1, z_call, h2, z_ext0, z_ext1, z_bst1, z_lload1, h3, z_neq, c0, z_guard, h4]
  exact h5
theorem twice_j3 (K : Nat) (hK : 1000000 < K) (d : Nat) (H : Heap) {va vx wm wn : SV} {A U V : List (List Int)} {x : List Int} (ha : IsInts2 H va A) (hx : Arr H vx (intsL .i64 x)) (ix : ∀ z ∈ x, I64 z) (hm : IsMat H (.agg [wm]) U) (hu : Good U) (iu : ∀ r ∈ U, ∀ z ∈ r, I64 z) (hn : IsMat H (.agg [wn]) V) (hv : Good V) (iv : ∀ r ∈ V, ∀ z ∈ r, I64 z) :
    ∃ H', f5_j3 slow K (runQ wk tab slow K (d + 30)) va vx (.box [wm]) (.box [wn]) (.bool false) H = some (.bool true, H') := by
  obtain ⟨b, H1, h1, f1, i1⟩ := chg_ok K hK (d + 9) H ha hm hu
  rw [show d + 9 + 21 = d + 30 from rfl] at h1
  by_cases h0 : chgE A U = 0
  · rw [if_pos h0] at i1
    rw [h0] at h1
    obtain ⟨e0, e1, e2, e3, e4, e5, e6, e7, e8⟩ := chgE_zero h0
    obtain ⟨hF, l, he⟩ := chg_form hu h0
    obtain ⟨r, H2, h2, f2, n2⟩ := det_ok K (by omega) (d + 21) H1 (hm.fr f1) hu hu.big hu.rows (fun r hr => by have := hu.rect r hr; have := hu.c16; omega) hu.c16
    rw [show d + 21 + 9 = d + 30 from rfl, e3] at h2
    rw [if_pos e3] at n2
    have n2' := n2
    obtain ⟨dy, rfl, _, _⟩ := n2
    have F2 := Frame.trans f1 f2
    obtain ⟨pb, H3, h3, f3, n3⟩ := gdet_ok K hK (d + 9) H2 (IsRowsC.fr ha F2)
    rw [show d + 9 + 21 = d + 30 from rfl, e0] at h3
    rw [if_pos e0] at n3
    have hcB : chkE (chgM A U) = 0 := chk_form.2 hF
    obtain ⟨pd, H4, h4, f4, n4⟩ := gdet_ok K hK (d + 9) H3 (IsRowsC.fr i1 (Frame.trans f2 f3))
    rw [show d + 9 + 21 = d + 30 from rfl, hcB] at h4
    rw [if_pos hcB] at n4
    have F4 := Frame.trans F2 (Frame.trans f3 f4)
    obtain ⟨H5, h5⟩ := twice_j6 K hK d H4 (IsRowsC.fr ha F4) (hx.fr F4) ix (hm.fr F4) hu iu (hn.fr F4) hv iv (IsRowsC.fr i1 (Frame.trans f2 (Frame.trans f3 f4))) h0 ((n2'.fr f3).fr f4) (n3.fr f4) n4
    have c0 : ((0 : Int) != 0) = false := rfl
    refine ⟨H5, ?_⟩
    simp only [f5_j3, z_cond, cond_false, z_lload1, h1, z_call, z_ext0, z_ext1, z_neq, c0, h2, z_bst2, h3, z_bst1, h4, z_guard]
    exact h5
  · have b0 : (chgE A U != 0) = true := by simp [h0]
    rw [if_neg h0] at i1
    refine ⟨H1, ?_⟩
    have hz : ∀ k, slow.len b k = k (.int .i64 0) := fun k => ints_len i1 k
    simp only [f5_j3, z_cond, cond_false, z_lload1, h1, z_call, z_ext0, z_ext1, z_neq, b0, cond_true, hz, z_eql, beq_self_eq_true, z_rest_bool]
theorem twice_ok (K : Nat) (hK : 1000000 < K) (d : Nat) (H : Heap) {va vu vv vx : SV} {A U V : List (List Int)} {x : List Int} (ha : IsInts2 H va A) (_ : ∀ r ∈ A, ∀ z ∈ r, I64 z) (hu : IsInts2 H vu U) (iu : ∀ r ∈ U, ∀ z ∈ r, I64 z) (hv : IsInts2 H vv V) (iv : ∀ r ∈ V, ∀ z ∈ r, I64 z) (hx : Arr H vx (intsL .i64 x)) (ix : ∀ z ∈ x, I64 z) :
    ∃ H', runQ wk tab slow K (d + 31) 5 [va, vu, vv, vx] H = some (.bool true, H') := by
  have hw' : ∀ H, runQ wk tab slow K (d + 30) 9 [] H = some (.bool true, H) := fun H => rfl
  show ∃ H', f5 slow K (runQ wk tab slow K (d + 30)) va vu vv vx H = _
  obtain ⟨t, H1, h1, ho1, f1, _, _⟩ := z_lay1 (H := H) (lo := H.size) (Nat.le_refl _) (.slice nilSl) hx.flat
  obtain ⟨s, H2, h2, ho2, f2⟩ := z_lay4 (H := H1) (lo := H1.size) (Nat.le_refl _) (.slice nilSl) (.slice nilSl) (.slice nilSl) (.slice nilSl) (IsRowsC.flat ha) (IsRowsC.flat hu) (IsRowsC.flat hv) ho1.arr.flat
  have f12 := Frame.trans f1 f2
  have ha2 : IsInts2 H2 va A := IsRowsC.fr ha f12
  have hu2 : IsInts2 H2 vu U := IsRowsC.fr hu f12
  have hv2 : IsInts2 H2 vv V := IsRowsC.fr hv f12
  have hxx : IsInts2 H2 t [x] := IntsW.to (ws := [vx]) ⟨ho1.arr.fr f2, rfl, fun i w' r hw1 hr => by
    match i with
    | 0 => simp at hw1 hr; subst hw1 hr; exact hx.fr f12
    | n + 1 => simp at hw1⟩
  simp only [f5, hw', z_call, z_not, Bool.not_true, z_guard, cond_false, h1, h2]
  rcases beyond7_ok K (by omega) (d + 29) H2 (Ts := [A, U, V, [x]]) ho2.arr (by simp) rfl (fun i u' T' hu' hT => by
    match i with
    | 0 => simp at hu' hT; subst hu' hT; exact ha2
    | 1 => simp at hu' hT; subst hu' hT; exact hu2
    | 2 => simp at hu' hT; subst hu' hT; exact hv2
    | 3 => simp at hu' hT; subst hu' hT; exact hxx
    | n + 4 => simp at hu') with h3 | ⟨hfew, h3⟩
  · refine ⟨H2, ?_⟩
    simp only [h3, z_call, f5_j1, z_cond, cond_true, hw', z_rest_bool]
  · have fu := hfew U (by simp)
    have fv := hfew V (by simp)
    obtain ⟨wm, H3, h4, f3, m3⟩ := of_w K hK (d + 10) H2 hu2 iu (by have := fu.1; omega)
    obtain ⟨wn, H4, h5, f4, m4⟩ := of_w K hK (d + 10) H3 (IsRowsC.fr hv2 f3) iv (by have := fv.1; omega)
    simp only [h3, z_call, f5_j1, z_cond, cond_false, h4, h5, z_ext0, z_ext1, z_bst1, z_neq, z_guard]
    have stop : f5_j3 slow K (runQ wk tab slow K (d + 30)) va vx (.box [wm]) (.box [wn]) (.bool true) H4 = some (.bool true, H4) := rfl
    by_cases e1 : ofErr U = 0
    · have b1 : (ofErr U != 0) = false := by simp [e1]
      rw [b1, cond_false]
      by_cases e2 : ofErr V = 0
      · have b2 : (ofErr V != 0) = false := by simp [e2]
        rw [b2]
        obtain ⟨gu, eu⟩ := of_good e1 iu
        obtain ⟨gv, ev⟩ := of_good e2 iv
        rw [eu] at m3
        rw [ev] at m4
        have f34 := Frame.trans f3 f4
        exact twice_j3 K hK d H4 (IsRowsC.fr ha2 f34) ((hx.fr f12).fr f34) ix (m3.fr f4) gu iu m4 gv iv
      · have b2 : (ofErr V != 0) = true := by simp [e2]
        rw [b2]
        exact ⟨H4, stop⟩
    · have b1 : (ofErr U != 0) = true := by simp [e1]
      rw [b1, cond_true]
      exact ⟨H4, stop⟩
end Go.Sh.Of


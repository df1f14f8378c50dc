/- GramCorners: the walk. -/
import Derived.Test.YtkgbokkeemjkkaaChk
set_option linter.unusedVariables false
set_option linter.unusedSimpArgs false
namespace Go.Sh.Of
open Go Go.Sh

theorem chk_sq {A : List (List Int)} (h : chkE A = 0 ∨ chkE A = 6) : Sq A := by
  unfold chkE at h
  by_cases h1 : A.length < 1
  · rw [if_pos h1] at h; omega
  · rw [if_neg h1] at h
    by_cases h2 : 8 < A.length
    · rw [if_pos h2] at h; omega
    · rw [if_neg h2] at h
      by_cases h3 : sqB A = true
      · rw [if_pos h3] at h
        by_cases h4 : outB (fun i j => smallB (ent A i j)) A 0 = true
        · exact sq_small h1 h2 h3 h4
        · rw [if_neg h4] at h; omega
      · rw [if_neg h3] at h; omega
theorem chk_pos {A : List (List Int)} (hs : Sq A) (hy : Sym A.length (ent A)) : (chkE A == 0) = posN (ent A) A.length 0 := by
  cases hp : posN (ent A) A.length 0 with
  | true => rw [beq_iff_eq]; exact chk_form.2 ⟨hs, hy, posN_corner.1 hp⟩
  | false =>
    rw [beq_eq_false_iff_ne]
    intro h
    have := posN_corner.2 (chk_form.1 h).cor
    rw [hp] at this
    cases this
theorem posN_more (A : Mx) (k : Nat) : posN A (k + 1) 0 = (posN A k 0 && decide (0 < det (k + 1) A)) := by
  rw [Bool.eq_iff_iff, Bool.and_eq_true, posN_iff, posN_iff, decide_eq_true_iff]
  constructor
  · intro h
    exact ⟨fun j h1 h2 => h j h1 (by omega), h (k + 1) (by omega) (by omega)⟩
  · intro ⟨h1, h2⟩ j h3 h4
    by_cases e : j = k + 1
    · rw [e]; exact h2
    · exact h1 j h3 (by omega)
theorem sign_gt (z : Int) : decide (signZ z > 0) = decide (0 < z) := by
  unfold signZ
  by_cases h : z = 0
  · rw [if_pos h, h]
  · rw [if_neg h]
    by_cases h2 : z < 0
    · rw [if_pos h2, decide_eq_false (show ¬ 0 < z by omega)]; rfl
    · rw [if_neg h2, decide_eq_true (show 0 < z by omega)]; rfl
theorem corn_in (K : Nat) (hK : 1000000 < K) (d : Nat) {H0 : Heap} {a : SV} {A : List (List Int)} (ha : IsInts2 H0 a A) (hs : Sq A) {k : Nat} (hk : k < A.length) (e : Int) (k50 : SV → SV → SV → SV → SV → Heap → Rs) : ∀ (m i fuel : Nat) (H : Heap) (rows : SV), i + m = k + 1 → m < fuel → Frame H0 H → OwnR H0.size H rows ((A.take i).map fun r => r.take (k + 1)) →
    ∃ H', slow.loop9 (f3_l16 slow K (runQ wk tab slow K (d + 20)) k50) fuel a (.int .i64 e) (.bool (posN (ent A) k 0)) (i64 k) rows (i64 A.length) (i64 k) (i64 (k + 1)) (i64 i) H = k50 a (.int .i64 e) (.bool (posN (ent A) (k + 1) 0)) (i64 A.length) (i64 (k + 1)) H' ∧ Frame H0 H'
  | 0, i, fuel, H, rows, him, hf, hfr, ho => by
    obtain ⟨fuel, rfl⟩ : ∃ q, fuel = q + 1 := ⟨fuel - 1, by omega⟩
    have hi : i = k + 1 := by omega
    subst hi
    have h8 := hs.n8
    have hlt : ¬ k + 1 < k + 1 := Nat.lt_irrefl _
    obtain ⟨hc1, hc2, hc3⟩ := cornL_sq hs (k := k + 1) (by omega) (by omega)
    obtain ⟨w, H1, h1, f1, m1⟩ := mof_w K hK d H (A := cornL A (k + 1)) ho.ints hc1
    obtain ⟨x, y, H2, h2, f2, n2⟩ := sdet_w K hK d H1 m1 hc1
    have hsd := sq_det_small hc1
    have ed : det (cornL A (k + 1)).length (ent (cornL A (k + 1))) = det (k + 1) (ent A) := by
      rw [hc2]
      exact det_congr fun i j hi hj => hc3 i j hi hj
    rw [ed] at n2 hsd
    have h3 := zsign_ok K (d + 17) H2 n2 hsd
    rw [show d + 17 + 3 = d + 20 from rfl] at h3
    have F := Frame.trans hfr (Frame.trans f1 f2)
    refine ⟨H2, ?_, F⟩
    rw [z_loop9]
    simp only [f3_l16, n_lss, decide_eq_false hlt, z_cond, cond_false, h1, z_call, z_ext0, z_ext1, z_bst1, z_lload1, h2, z_bst2, z_neq, bne_self_eq_false, z_guard, f3_j20]
    cases hp : posN (ent A) k 0 with
    | true =>
      have e1 : posN (ent A) (k + 1) 0 = decide (0 < det (k + 1) (ent A)) := by rw [posN_more, hp, Bool.true_and]
      rw [e1]
      simp only [cond_true, z_lload2, h3, z_call, z_gtr, sign_gt, f3_j22, w_inc (show k < 1000000 by omega)]
    | false =>
      have e1 : posN (ent A) (k + 1) 0 = false := by rw [posN_more, hp, Bool.false_and]
      rw [e1]
      simp only [cond_false, f3_j22, w_inc (show k < 1000000 by omega)]
  | m + 1, i, fuel, H, rows, him, hf, hfr, ho => by
    obtain ⟨fuel, rfl⟩ : ∃ q, fuel = q + 1 := ⟨fuel - 1, by omega⟩
    have hlt : i < k + 1 := by omega
    have h8 := hs.n8
    obtain ⟨r, hr⟩ : ∃ r, A[i]? = some r := ⟨_, List.getElem?_eq_getElem (by omega)⟩
    obtain ⟨ws, hW⟩ := IntsW.of (IsRowsC.fr ha hfr)
    obtain ⟨w, hw⟩ : ∃ w, ws[i]? = some w := ⟨_, List.getElem?_eq_getElem (by rw [hW.2.1]; omega)⟩
    have hld : ∀ k, slow.idx 1 a (i64 i) (fun p => slow.load 1 false p H k) = k w := fun k => hW.1.load hw .i64 k
    have hrl := hs.sq r (List.mem_of_getElem? hr)
    obtain ⟨c, hc, hca⟩ := slice010_ok (hW.2.2 i w r hw hr) (b := k + 1) (by simp [intsL]; omega)
    obtain ⟨t, H1, ht, ot, ft, _⟩ := (Own.nil H.size H).append (Nat.le_refl _) hca (by_ := 8) (roomy_small (by simp [intsL]; omega))
    have hta : Arr H1 t (intsL .i64 (r.take (k + 1))) := by
      have := ot.arr
      simpa [intsL, List.map_take] using this
    obtain ⟨rows', H2, h2, o2, f2, _⟩ := (ho.fr ft).push (Nat.le_trans hfr.size ft.size) (by simp; omega) hta
    rw [← cornL_step hr] at o2
    obtain ⟨H3, h3, f3⟩ := corn_in K hK d ha hs hk e k50 m (i + 1) fuel H2 rows' (by omega) (by omega) (Fr.trans (Frame.trans hfr ft) f2) o2
    refine ⟨H3, ?_, f3⟩
    rw [z_loop9]
    simp only [f3_l16, n_lss, decide_eq_true hlt, z_cond, cond_true, hld, w_inc (show k < 1000000 by omega), hc, ht, h2, w_inc (show i < 1000000 by omega)]
    exact h3
theorem corn_low (K : Nat) (hK : 1000000 < K) (d : Nat) {H0 : Heap} {a : SV} {A : List (List Int)} (ha : IsInts2 H0 a A) (hs : Sq A) (hy : Sym A.length (ent A)) : ∀ (m k fuel : Nat) (H : Heap), k + m = A.length → m < fuel → Frame H0 H →
    ∃ H', slow.loop5 (f3_l14 slow K (runQ wk tab slow K (d + 20))) fuel a (.int .i64 (chkE A)) (.bool (posN (ent A) k 0)) (i64 A.length) (i64 k) H = some (.bool true, H')
  | 0, k, fuel, H, hkm, hf, hfr => by
    obtain ⟨fuel, rfl⟩ : ∃ q, fuel = q + 1 := ⟨fuel - 1, by omega⟩
    have hk : k = A.length := by omega
    subst hk
    have hlt : ¬ A.length < A.length := Nat.lt_irrefl _
    have hbe : ∀ (a b : Bool) k, slow.b_eql (.bool a) (.bool b) k = k (.bool (a == b)) := fun a b k => rfl
    refine ⟨H, ?_⟩
    rw [z_loop5]
    simp only [f3_l14, n_lss, decide_eq_false hlt, z_cond, cond_false, z_eql, chk_pos hs hy, hbe, beq_self_eq_true, z_rest_bool]
  | m + 1, k, fuel, H, hkm, hf, hfr => by
    obtain ⟨fuel, rfl⟩ : ∃ q, fuel = q + 1 := ⟨fuel - 1, by omega⟩
    have hlt : k < A.length := by omega
    have h8 := hs.n8
    obtain ⟨H1, h1, f1⟩ := corn_in K hK d ha hs hlt (chkE A) (slow.loop5 (f3_l14 slow K (runQ wk tab slow K (d + 20))) fuel) (k + 1) 0 K H (.slice nilSl) (by omega) (by omega) hfr (OwnR.nil _ _)
    obtain ⟨H2, h2⟩ := corn_low K hK d ha hs hy m (k + 1) fuel H1 (by omega) (by omega) f1
    refine ⟨H2, ?_⟩
    rw [z_loop5]
    simp only [f3_l14, n_lss, decide_eq_true hlt, z_cond, cond_true, w_inc (show k < 1000000 by omega)]
    rw [show (SV.int .i64 0) = i64 0 from rfl, h1]
    exact h2
/-- Is a row what the column is, as far as it was looked at? -/
theorem corn_sym_in (K : Nat) (hK : 1000000 < K) (d : Nat) {H : Heap} {a : SV} {A : List (List Int)} (ha : IsInts2 H a A) (hs : Sq A) (he : chkE A = 0 ∨ chkE A = 6) {i : Nat} (hi : i < A.length) (k18 : SV → SV → SV → SV → Heap → Rs) : ∀ (m j fuel : Nat), j + m = i → m < fuel → (∀ t, t < j → ent A i t = ent A t i) →
    (slow.loop7 (f3_l7 slow K (runQ wk tab slow K (d + 20)) k18) fuel a (.int .i64 (chkE A)) (i64 i) (i64 A.length) (i64 i) (i64 i) (i64 j) H = some (.bool true, H)) ∨ ((∀ t, t < i → ent A i t = ent A t i) ∧ slow.loop7 (f3_l7 slow K (runQ wk tab slow K (d + 20)) k18) fuel a (.int .i64 (chkE A)) (i64 i) (i64 A.length) (i64 i) (i64 i) (i64 j) H = k18 a (.int .i64 (chkE A)) (i64 A.length) (i64 (i + 1)) H)
  | 0, j, fuel, hjm, hf, hd => by
    obtain ⟨fuel, rfl⟩ : ∃ q, fuel = q + 1 := ⟨fuel - 1, by omega⟩
    have hlt : ¬ j < i := by omega
    have h8 := hs.n8
    refine .inr ⟨fun t ht => hd t (by omega), ?_⟩
    rw [z_loop7]
    simp only [f3_l7, n_lss, decide_eq_false hlt, z_cond, cond_false, w_inc (show i < 1000000 by omega)]
  | m + 1, j, fuel, hjm, hf, hd => by
    obtain ⟨fuel, rfl⟩ : ∃ q, fuel = q + 1 := ⟨fuel - 1, by omega⟩
    have hlt : j < i := by omega
    have h8 := hs.n8
    obtain ⟨r, a1, a2, _⟩ := hs.at (i := i) (j := j) hi (by omega)
    obtain ⟨r', b1, b2, _⟩ := hs.at (i := j) (j := i) (by omega) hi
    obtain ⟨w, l1, l2⟩ := ints_entry ha a1 a2
    obtain ⟨w', l3, l4⟩ := ints_entry ha b1 b2
    rw [z_loop7]
    simp only [f3_l7, n_lss, decide_eq_true hlt, z_cond, cond_true, l1, l2, l3, l4, z_neq]
    by_cases e : ent A i j = ent A j i
    · have hb : (ent A i j != ent A j i) = false := by simp [e]
      rw [hb]
      simp only [cond_false, w_inc (show j < 1000000 by omega)]
      exact corn_sym_in K hK d ha hs he hi k18 m (j + 1) fuel (by omega) (by omega) fun t ht => by
        by_cases h : t = j
        · rw [h]; exact e
        · exact hd t (by omega)
    · left
      have hb : (ent A i j != ent A j i) = true := by simp [e]
      have h6 : chkE A = 6 := by
        rcases he with h | h
        · exact absurd ((chk_form.1 h).sym i j hi (by omega)) e
        · exact h
      rw [hb, h6]
      rfl
theorem corn_sym (K : Nat) (hK : 1000000 < K) (d : Nat) {H : Heap} {a : SV} {A : List (List Int)} (ha : IsInts2 H a A) (hs : Sq A) (he : chkE A = 0 ∨ chkE A = 6) : ∀ (m i fuel : Nat), i + m = A.length → m < fuel → (∀ x t, x < i → t < x → ent A x t = ent A t x) →
    ∃ H', slow.loop4 (f3_l5 slow K (runQ wk tab slow K (d + 20))) fuel a (.int .i64 (chkE A)) (i64 A.length) (i64 i) H = some (.bool true, H')
  | 0, i, fuel, him, hf, hd => by
    obtain ⟨fuel, rfl⟩ : ∃ q, fuel = q + 1 := ⟨fuel - 1, by omega⟩
    have hlt : ¬ i < A.length := by omega
    have h8 := hs.n8
    have hy : Sym A.length (ent A) := fun x t hx ht => by
      rcases Nat.lt_trichotomy x t with h | h | h
      · exact (hd t x (by omega) h).symm
      · rw [h]
      · exact hd x t (by omega) h
    obtain ⟨H', h1⟩ := corn_low K hK d ha hs hy A.length 0 K H (by omega) (by omega) (Fr.refl _ _)
    refine ⟨H', ?_⟩
    rw [z_loop4]
    simp only [f3_l5, n_lss, decide_eq_false hlt, z_cond, cond_false, ints_len ha]
    exact h1
  | m + 1, i, fuel, him, hf, hd => by
    obtain ⟨fuel, rfl⟩ : ∃ q, fuel = q + 1 := ⟨fuel - 1, by omega⟩
    have hlt : i < A.length := by omega
    have h8 := hs.n8
    rw [z_loop4]
    simp only [f3_l5, n_lss, decide_eq_true hlt, z_cond, cond_true]
    rcases corn_sym_in K hK d ha hs he hlt (slow.loop4 (f3_l5 slow K (runQ wk tab slow K (d + 20))) fuel) i 0 K (by omega) (by omega) (fun t ht => absurd ht (Nat.not_lt_zero t)) with h | ⟨h1, h⟩
    · exact ⟨H, h⟩
    · obtain ⟨H', h2⟩ := corn_sym K hK d ha hs he m (i + 1) fuel (by omega) (by omega) fun x t hx ht => by
        by_cases e : x = i
        · subst e; exact h1 t ht
        · exact hd x t (by omega) ht
      exact ⟨H', h.trans h2⟩
theorem corners_ok (K : Nat) (hK : 1000000 < K) (d : Nat) (H : Heap) {v : SV} {A : List (List Int)} (hv : IsInts2 H v A) (_ : ∀ r ∈ A, ∀ z ∈ r, I64 z) :
    ∃ H', runQ wk tab slow K (d + 21) 3 [v] H = some (.bool true, H') := by
  have hw : ∀ H, runQ wk tab slow K (d + 20) 9 [] H = some (.bool true, H) := fun H => rfl
  show ∃ H', f3 slow K (runQ wk tab slow K (d + 20)) v H = _
  obtain ⟨u, H1, h1, ho, f1, _, _⟩ := z_lay1 (H := H) (lo := H.size) (Nat.le_refl _) (.slice nilSl) (IsRowsC.flat hv)
  have hv1 : IsInts2 H1 v A := IsRowsC.fr hv f1
  simp only [f3, hw, z_call, z_not, Bool.not_true, z_guard, cond_false, h1]
  rcases beyond7_ok K (by omega) (d + 19) H1 (Ts := [A]) ho.arr (by simp) rfl (fun i u T' hu hT => by
    match i with
    | 0 => simp at hu hT; subst hu hT; exact hv1
    | n + 1 => simp at hu) with h2 | ⟨hfew, h2⟩
  · refine ⟨H1, ?_⟩
    simp only [h2, z_call, f3_j1, z_cond, cond_true, hw, z_rest_bool]
  · obtain ⟨H2, h3, f2⟩ := chk_ok K (by omega) (d + 11) H1 hv1
    rw [show d + 11 + 9 = d + 20 from rfl] at h3
    simp only [h2, z_call, f3_j1, z_cond, cond_false, h3, z_neq, z_guard]
    have stop : f3_j3 slow K (runQ wk tab slow K (d + 20)) v (.int .i64 (chkE A)) (.bool true) H2 = some (.bool true, H2) := rfl
    have go : (chkE A = 0 ∨ chkE A = 6) → ∃ H', f3_j3 slow K (runQ wk tab slow K (d + 20)) v (.int .i64 (chkE A)) (.bool false) H2 = some (.bool true, H') := fun he => by
      have hv2 : IsInts2 H2 v A := IsRowsC.fr hv1 f2
      have hs := chk_sq he
      have h8 := hs.n8
      obtain ⟨H', h4⟩ := corn_sym K hK d hv2 hs he A.length 0 K (by omega) (by omega) (fun x t hx => absurd hx (Nat.not_lt_zero x))
      refine ⟨H', ?_⟩
      simp only [f3_j3, z_cond, cond_false, ints_len hv2]
      exact h4
    by_cases e0 : chkE A = 0
    · have b0 : (chkE A != 0) = false := by simp [e0]
      rw [b0, cond_false]
      exact go (.inl e0)
    · have b0 : (chkE A != 0) = true := by simp [e0]
      rw [b0, cond_true]
      by_cases e6 : chkE A = 6
      · have b6 : (chkE A != 6) = false := by simp [e6]
        rw [b6]
        exact go (.inr e6)
      · have b6 : (chkE A != 6) = true := by simp [e6]
        rw [b6]
        exact ⟨H2, stop⟩
end Go.Sh.Of

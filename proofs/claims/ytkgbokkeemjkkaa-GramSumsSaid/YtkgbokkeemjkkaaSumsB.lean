/- GramSums: contracts of the reference's Sum and Scale; the walk. -/
import Derived.Test.YtkgbokkeemjkkaaSums
set_option linter.unusedVariables false
set_option linter.unusedSimpArgs false
namespace Go.Sh.Of
open Go Go.Sh

theorem ownR_good {lo : Nat} {H : Heap} {v : SV} {L : List (List Int)} (h : OwnR lo H v L) : v.good = true := by
  obtain ⟨ws, ⟨base, rfl, _⟩, _⟩ := h
  rfl
theorem rsum7_in (C : CallC) (K : Nat) {H0 Hi : Heap} (h0i : Frame H0 Hi) {va vb : SV} {A B : List (List Int)} (ha : IsInts2 H0 va A) (hb : IsInts2 H0 vb B) (hs : Sq A) (hs2 : Sq B) {lo : Nat} (hlo : lo ≤ Hi.size) {out row : SV} {i : Nat} (hi : i < A.length + B.length) {L : List (List Int)} (hL : L.length < 1000) (ho : OwnR lo Hi out L) (k13 : SV → SV → SV → SV → SV → Heap → Rs) : ∀ (m j fuel : Nat) (H : Heap) (zs : List Int), j + m = A.length + B.length → m < fuel → Frame Hi H → Own Hi.size H row (intsL .i64 zs) → zs.length = A.length + B.length → (∀ q, q < j → zs[q]? = some (sumX A B i q)) → (∀ q, j ≤ q → q < A.length + B.length → zs[q]? = some 0) →
    ∃ out' H', slow.loop7 (f40_l4 slow K C k13) fuel va vb (i64 (A.length + B.length)) out (i64 i) row (i64 j) H = k13 va vb (i64 (A.length + B.length)) out' (i64 (i + 1)) H' ∧ Fr lo Hi H' ∧ OwnR lo H' out' (L ++ [rowI (A.length + B.length) (sumX A B) i])
  | 0, j, fuel, H, zs, hjm, hf, hfr, hr, hl, hd, hz => by
    obtain ⟨fuel, rfl⟩ : ∃ q, fuel = q + 1 := ⟨fuel - 1, by omega⟩
    have hlt : ¬ j < A.length + B.length := by omega
    have h8 := hs.n8
    have h82 := hs2.n8
    have ez := rowI_of (E := sumX A B) (i := i) hl (fun q hq => hd q (by omega))
    subst ez
    obtain ⟨out', H', h1, o1, f1, _⟩ := (ho.fr hfr).push (Nat.le_trans hlo hfr.size) (by omega) hr.arr
    refine ⟨out', H', ?_, Fr.trans (hfr.mono hlo) f1, o1⟩
    rw [z_loop7]
    simp only [f40_l4, n_lss, decide_eq_false hlt, z_cond, cond_false, h1, w_inc (show i < 1000000 by omega)]
  | m + 1, j, fuel, H, zs, hjm, hf, hfr, hr, hl, hd, hz => by
    obtain ⟨fuel, rfl⟩ : ∃ q, fuel = q + 1 := ⟨fuel - 1, by omega⟩
    have hlt : j < A.length + B.length := by omega
    have h8 := hs.n8
    have h82 := hs2.n8
    have hA' : IsInts2 H va A := IsRowsC.fr ha (Frame.trans h0i hfr)
    have hB' : IsInts2 H vb B := IsRowsC.fr hb (Frame.trans h0i hfr)
    have hlj : ∀ k, slow.lss (i64 j) (i64 (A.length + B.length)) k = k (.bool true) := fun k => by rw [n_lss, decide_eq_true hlt]
    have st : ∀ z : Int, ∃ H1, (∀ k, slow.idx 1 row (i64 j) (fun p => slow.store 1 p (.int .i64 z) H k) = k H1) ∧ Own Hi.size H1 row (intsL .i64 (zs.set j z)) ∧ Frame Hi H1 := fun z => by
      obtain ⟨H1, st, o1, f1, _⟩ := hr.store (i := j) (by simp [intsL]; omega) (x := .int .i64 z) rfl .i64
      rw [ints_set] at o1
      exact ⟨H1, st, o1, Fr.trans hfr f1⟩
    have go : ∀ H1 zs', Frame Hi H1 → Own Hi.size H1 row (intsL .i64 zs') → zs' = zs.set j (sumX A B i j) → ∃ out' H', slow.loop7 (f40_l4 slow K C k13) fuel va vb (i64 (A.length + B.length)) out (i64 i) row (i64 (j + 1)) H1 = k13 va vb (i64 (A.length + B.length)) out' (i64 (i + 1)) H' ∧ Fr lo Hi H' ∧ OwnR lo H' out' (L ++ [rowI (A.length + B.length) (sumX A B) i]) := fun H1 zs' f1 o1 e => by
      subst e
      exact rsum7_in C K h0i ha hb hs hs2 hlo hi hL ho k13 m (j + 1) fuel H1 _ (by omega) (by omega) f1 o1 (by simp [hl]) (fun q hq => by
        by_cases e : q = j
        · subst e
          exact List.getElem?_set_self (by omega)
        · rw [List.getElem?_set_ne (Ne.symm e)]
          exact hd q (by omega)) (fun q h1 h2 => by
        rw [List.getElem?_set_ne (by omega)]
        exact hz q (by omega) h2)
    have hinc := w_inc (show j < 1000000 by omega)
    rw [z_loop7]
    simp only [f40_l4, hlj, z_cond, cond_true, ints_len hA', n_lss]
    by_cases c1 : i < A.length
    · rw [decide_eq_true c1]
      have c3 : ∀ k, slow.geq (i64 i) (i64 A.length) k = k (.bool false) := fun k => by rw [n_geq, decide_eq_false (by omega)]
      by_cases c2 : j < A.length
      · have eX : sumX A B i j = ent A i j := by unfold sumX; rw [if_pos ⟨c1, c2⟩]
        obtain ⟨w, l1, l2⟩ := sq_ld hA' hs c1 c2
        obtain ⟨H1, s1, o1, f1⟩ := st (ent A i j)
        obtain ⟨out', H', h2, g2⟩ := go H1 _ f1 o1 (by rw [eX])
        refine ⟨out', H', ?_, g2⟩
        rw [decide_eq_true c2]
        simp only [z_guard, cond_true, f40_j6, z_cond, l1, l2, s1, f40_j7, ints_len (IsRowsC.fr ha (Frame.trans h0i f1)), c3, cond_false, f40_j8, f40_j9, hinc]
        exact h2
      · have eX : sumX A B i j = 0 := by unfold sumX; rw [if_neg fun h => c2 h.2, if_neg fun h => by omega]
        obtain ⟨out', H', h2, g2⟩ := go H zs hfr hr (by
          rw [eX]
          exact (list_set_same (hz j (Nat.le_refl _) hlt)).symm)
        refine ⟨out', H', ?_, g2⟩
        rw [decide_eq_false c2]
        simp only [z_guard, cond_true, f40_j6, z_cond, cond_false, f40_j7, ints_len hA', c3, f40_j8, f40_j9, hinc]
        exact h2
    · rw [decide_eq_false c1]
      have c3 : ∀ k, slow.geq (i64 i) (i64 A.length) k = k (.bool true) := fun k => by rw [n_geq, decide_eq_true (by omega)]
      by_cases c2 : j < A.length
      · have c4 : ∀ k, slow.geq (i64 j) (i64 A.length) k = k (.bool false) := fun k => by rw [n_geq, decide_eq_false (by omega)]
        have eX : sumX A B i j = 0 := by unfold sumX; rw [if_neg fun h => c1 h.1, if_neg fun h => by omega]
        obtain ⟨out', H', h2, g2⟩ := go H zs hfr hr (by
          rw [eX]
          exact (list_set_same (hz j (Nat.le_refl _) hlt)).symm)
        refine ⟨out', H', ?_, g2⟩
        simp only [z_guard, cond_false, f40_j6, z_cond, f40_j7, ints_len hA', c3, cond_true, c4, f40_j8, f40_j9, hinc]
        exact h2
      · have c4 : ∀ k, slow.geq (i64 j) (i64 A.length) k = k (.bool true) := fun k => by rw [n_geq, decide_eq_true (by omega)]
        have eX : sumX A B i j = ent B (i - A.length) (j - A.length) := by unfold sumX; rw [if_neg fun h => c1 h.1, if_pos ⟨by omega, by omega⟩]
        obtain ⟨w, l1, l2⟩ := sq_ld hB' hs2 (i := i - A.length) (j := j - A.length) (by omega) (by omega)
        obtain ⟨H1, s1, o1, f1⟩ := st (ent B (i - A.length) (j - A.length))
        obtain ⟨out', H', h2, g2⟩ := go H1 _ f1 o1 (by rw [eX])
        refine ⟨out', H', ?_, g2⟩
        simp only [z_guard, cond_false, f40_j6, z_cond, f40_j7, ints_len hA', c3, cond_true, c4, f40_j8, n_subi _ (show A.length ≤ i by omega) (by omega), n_subi _ (show A.length ≤ j by omega) (by omega), l1, l2, s1, f40_j9, hinc]
        exact h2
where
  list_set_same {zs : List Int} {j : Nat} {z : Int} (h : zs[j]? = some z) : zs.set j z = zs := by
    apply List.ext_getElem?
    intro q
    by_cases e : q = j
    · subst e
      rw [List.getElem?_set_self (List.getElem?_eq_some_iff.1 h).1, h]
    · rw [List.getElem?_set_ne (Ne.symm e)]
theorem rsum7_out (C : CallC) (K : Nat) (hK : 2000 < K) {H0 : Heap} {va vb : SV} {A B : List (List Int)} (ha : IsInts2 H0 va A) (hb : IsInts2 H0 vb B) (hs : Sq A) (hs2 : Sq B) : ∀ (m i fuel : Nat) (H : Heap) (out : SV), i + m = A.length + B.length → m < fuel → Frame H0 H → OwnR H0.size H out ((List.range i).map (rowI (A.length + B.length) (sumX A B))) →
    ∃ v H', slow.loop5 (f40_l2 slow K C) fuel va vb (i64 (A.length + B.length)) out (i64 i) H = some (.tuple [v, .int .i64 0], H') ∧ Frame H0 H' ∧ OwnR H0.size H' v (sqM (A.length + B.length) (sumX A B))
  | 0, i, fuel, H, out, him, hf, hfr, ho => by
    obtain ⟨fuel, rfl⟩ : ∃ q, fuel = q + 1 := ⟨fuel - 1, by omega⟩
    have hlt : ¬ i < A.length + B.length := by omega
    have e : i = A.length + B.length := by omega
    refine ⟨out, H, ?_, hfr, ?_⟩
    · rw [z_loop5]
      simp only [f40_l2, n_lss, decide_eq_false hlt, z_cond, cond_false, z_rest (ownR_good ho)]
    · unfold sqM
      rw [← e] at ho ⊢
      exact ho
  | m + 1, i, fuel, H, out, him, hf, hfr, ho => by
    obtain ⟨fuel, rfl⟩ : ∃ q, fuel = q + 1 := ⟨fuel - 1, by omega⟩
    have hlt : i < A.length + B.length := by omega
    have h8 := hs.n8
    have h82 := hs2.n8
    obtain ⟨row, H1, h1, o1, f1, _⟩ := z_make (H := H) (lo := H.size) (Nat.le_refl _) 8 (.int .i64 0) (A.length + B.length) (by omega) (roomy_small (by omega)) .i64 .i64
    have er : List.replicate (A.length + B.length) (SV.int .i64 0) = intsL .i64 (List.replicate (A.length + B.length) 0) := by simp [intsL]
    rw [er] at o1
    obtain ⟨out', H2, h2, f2, o2⟩ := rsum7_in C K hfr ha hb hs hs2 hfr.size hlt (by simp; omega) ho (slow.loop5 (f40_l2 slow K C) fuel) (A.length + B.length) 0 K H1 (List.replicate (A.length + B.length) 0) (by omega) (by omega) f1 o1 (by simp) (fun q hq => absurd hq (Nat.not_lt_zero q)) (fun q _ hq => by simp [hq])
    have eS : (List.range i).map (rowI (A.length + B.length) (sumX A B)) ++ [rowI (A.length + B.length) (sumX A B) i] = (List.range (i + 1)).map (rowI (A.length + B.length) (sumX A B)) := by
      rw [List.range_succ, List.map_append]
      rfl
    rw [eS] at o2
    obtain ⟨v, H3, h3, g3⟩ := rsum7_out C K hK ha hb hs hs2 m (i + 1) fuel H2 out' (by omega) (by omega) (Fr.trans hfr f2) o2
    refine ⟨v, H3, ?_, g3⟩
    rw [z_loop5]
    simp only [f40_l2, n_lss, decide_eq_true hlt, z_cond, cond_true, h1]
    rw [show (SV.int .i64 0) = i64 0 from rfl, h2]
    exact h3
theorem rsum7_ok (K : Nat) (hK : 2000 < K) (d : Nat) (H : Heap) {va vb : SV} {A B : List (List Int)} (ha : IsInts2 H va A) (hb : IsInts2 H vb B) (e : chkE A = 0) (e2 : chkE B = 0) :
    ∃ v H', runQ wk tab slow K (d + 1) 40 [va, vb] H = some (.tuple [v, .int .i64 (sumE A B)], H') ∧ Frame H H' ∧ IsInts2 H' v (sumL A B) := by
  have hs := (chk_form.1 e).sq
  have hs2 := (chk_form.1 e2).sq
  have h8 := hs.n8
  have h82 := hs2.n8
  show ∃ v H', f40 slow K (runQ wk tab slow K d) va vb H = _ ∧ _
  have g8 : ∀ k, slow.gtr (i64 (A.length + B.length)) (.int .i64 8) k = k (.bool (decide (A.length + B.length > 8))) := fun k => n_gtr k .i64 _ 8
  simp only [f40, ints_len ha, ints_len hb, n_addi _ (show A.length + B.length < 9223372036854775808 by omega), g8]
  by_cases e3 : 8 < A.length + B.length
  · have eE : sumE A B = 5 := by unfold sumE; rw [if_pos e, if_pos e2, if_pos e3]
    have eL : sumL A B = [] := by unfold sumL; rw [eE]; rfl
    rw [decide_eq_true (show A.length + B.length > 8 from e3), eE, eL]
    exact ⟨_, H, rfl, Fr.refl _ _, (OwnR.nil 0 _).ints⟩
  · have eE : sumE A B = 0 := by unfold sumE; rw [if_pos e, if_pos e2, if_neg e3]
    have eL : sumL A B = sqM (A.length + B.length) (sumX A B) := by unfold sumL; rw [if_pos eE]
    rw [decide_eq_false (show ¬ A.length + B.length > 8 from e3), eE, eL]
    obtain ⟨v, H', h1, f1, o1⟩ := rsum7_out (runQ wk tab slow K d) K hK ha hb hs hs2 (A.length + B.length) 0 K H (.slice nilSl) (by omega) (by omega) (Fr.refl _ _) (by simpa using OwnR.nil _ _)
    exact ⟨v, H', by simp only [z_cond, cond_false]; exact h1, f1, o1.ints⟩
/-! ### Scale -/
theorem rscl_in (C : CallC) (K : Nat) {H0 Hi : Heap} (h0i : Frame H0 Hi) {va : SV} {A : List (List Int)} (ha : IsInts2 H0 va A) (hs : Sq A) {c : Int} (h0 : 1 ≤ c) (h1 : c ≤ 16384) {lo : Nat} (hlo : lo ≤ Hi.size) {out : SV} {i : Nat} (hi : i < A.length) {L : List (List Int)} (hL : L.length < 1000) (ho : OwnR lo Hi out L) (k9 : SV → SV → SV → SV → Heap → Rs) : ∀ (m j fuel : Nat) (H : Heap) (row : SV), j + m = A.length → m < fuel → Frame Hi H → Own Hi.size H row (intsL .i64 ((List.range j).map (sclX A c i))) → (∀ q, q < j → smallB (sclX A c i q) = true) →
    (∃ H', slow.loop6 (f39_l4 slow K C k9) fuel va (.int .i64 c) out (i64 i) row (i64 j) H = some (.tuple [.slice nilSl, .int .i64 3], H') ∧ Frame Hi H' ∧ ∃ q, q < A.length ∧ smallB (sclX A c i q) = false) ∨
    (∃ out' H', slow.loop6 (f39_l4 slow K C k9) fuel va (.int .i64 c) out (i64 i) row (i64 j) H = k9 va (.int .i64 c) out' (i64 (i + 1)) H' ∧ Fr lo Hi H' ∧ OwnR lo H' out' (L ++ [rowI A.length (sclX A c) i]) ∧ ∀ q, q < A.length → smallB (sclX A c i q) = true)
  | 0, j, fuel, H, row, hjm, hf, hfr, hr, hd => by
    obtain ⟨fuel, rfl⟩ : ∃ q, fuel = q + 1 := ⟨fuel - 1, by omega⟩
    have e : j = A.length := by omega
    subst e
    have hlt : ¬ A.length < A.length := Nat.lt_irrefl _
    have h8 := hs.n8
    obtain ⟨out', H', h1, o1, f1, _⟩ := (ho.fr hfr).push (Nat.le_trans hlo hfr.size) (by omega) hr.arr
    refine .inr ⟨out', H', ?_, Fr.trans (hfr.mono hlo) f1, o1, hd⟩
    rw [z_loop6]
    simp only [f39_l4, ints_len (IsRowsC.fr ha (Frame.trans h0i hfr)), n_lss, decide_eq_false hlt, z_cond, cond_false, h1, w_inc (show i < 1000000 by omega)]
  | m + 1, j, fuel, H, row, hjm, hf, hfr, hr, hd => by
    obtain ⟨fuel, rfl⟩ : ∃ q, fuel = q + 1 := ⟨fuel - 1, by omega⟩
    have hlt : j < A.length := by omega
    have h8 := hs.n8
    have hA' : IsInts2 H va A := IsRowsC.fr ha (Frame.trans h0i hfr)
    have hlj : ∀ k, slow.lss (i64 j) (i64 A.length) k = k (.bool true) := fun k => by rw [n_lss, decide_eq_true hlt]
    obtain ⟨w, l1, l2⟩ := sq_ld hA' hs hi hlt
    obtain ⟨r, _, _, a3⟩ := hs.at hi hlt
    have hI := scl_i64 a3 h0 h1
    have hm : ∀ k, slow.mul (.int .i64 c) (.int .i64 (ent A i j)) k = k (.int .i64 (sclX A c i j)) := fun k => by
      rw [z_mul, Int.mul_comm, wrap_i64 hI.1 hI.2]
      rfl
    have hgc : ∀ k, slow.gtr (.int .i64 c) (.int .i64 16384) k = k (.bool false) := fun k => by rw [z_gtr, decide_eq_false (by omega)]
    have hg2 : ∀ k, slow.gtr (.int .i64 (sclX A c i j)) (.int .i64 16384) k = k (.bool (decide (sclX A c i j > 16384))) := fun k => z_gtr _ _ _ k
    have hl2 : ∀ k, slow.lss (.int .i64 (sclX A c i j)) (.int .i64 (-16384)) k = k (.bool (decide (sclX A c i j < -16384))) := fun k => z_lss _ _ _ k
    rw [z_loop6]
    simp only [f39_l4, ints_len hA', hlj, z_cond, cond_true, hgc, z_guard, cond_false, l1, l2, hm, hg2]
    by_cases c1 : sclX A c i j > 16384
    · left
      rw [decide_eq_true c1]
      refine ⟨H, rfl, hfr, j, hlt, ?_⟩
      unfold smallB
      rw [decide_eq_false (show ¬ sclX A c i j ≤ 16384 by omega), Bool.and_false]
    · rw [decide_eq_false c1]
      simp only [cond_false, hl2]
      by_cases c2 : sclX A c i j < -16384
      · left
        rw [decide_eq_true c2]
        refine ⟨H, rfl, hfr, j, hlt, ?_⟩
        unfold smallB
        rw [decide_eq_false (show ¬ -16384 ≤ sclX A c i j by omega), Bool.false_and]
      · rw [decide_eq_false c2]
        obtain ⟨row', H1, h2, o2, f2, _⟩ := push1 hr hfr.size (.int .i64 0) (x := .int .i64 (sclX A c i j)) rfl (by_ := 8) (roomy_small (by simp [intsL]; omega))
        have eS : intsL .i64 ((List.range j).map (sclX A c i)) ++ [SV.int .i64 (sclX A c i j)] = intsL .i64 ((List.range (j + 1)).map (sclX A c i)) := by
          rw [List.range_succ]
          simp [intsL]
        rw [eS] at o2
        simp only [f39_j6, z_cond, cond_false, l1, l2, hm, h2, w_inc (show j < 1000000 by omega)]
        exact rscl_in C K h0i ha hs h0 h1 hlo hi hL ho k9 m (j + 1) fuel H1 row' (by omega) (by omega) (Fr.trans hfr f2) o2 fun q hq => by
          by_cases e : q = j
          · subst e
            unfold smallB
            rw [decide_eq_true (show -16384 ≤ sclX A c i q by omega), decide_eq_true (show sclX A c i q ≤ 16384 by omega)]
            rfl
          · exact hd q (by omega)
theorem rscl_out (C : CallC) (K : Nat) (hK : 2000 < K) {H0 : Heap} {va : SV} {A : List (List Int)} (ha : IsInts2 H0 va A) (e : chkE A = 0) {c : Int} (h0 : 1 ≤ c) (h1 : c ≤ 16384) : ∀ (m i fuel : Nat) (H : Heap) (out : SV), i + m = A.length → m < fuel → Frame H0 H → OwnR H0.size H out ((List.range i).map (rowI A.length (sclX A c))) → (∀ p q, p < i → q < A.length → smallB (sclX A c p q) = true) →
    ∃ v H', slow.loop4 (f39_l2 slow K C) fuel va (.int .i64 c) out (i64 i) H = some (.tuple [v, .int .i64 (sclE A c)], H') ∧ Frame H0 H' ∧ IsInts2 H' v (sclL A c)
  | 0, i, fuel, H, out, him, hf, hfr, ho, hd => by
    obtain ⟨fuel, rfl⟩ : ∃ q, fuel = q + 1 := ⟨fuel - 1, by omega⟩
    have hs := (chk_form.1 e).sq
    have ei : i = A.length := by omega
    subst ei
    have hlt : ¬ A.length < A.length := Nat.lt_irrefl _
    have hq : outB (fun i j => smallB (sclX A c i j)) A 0 = true := outB_iff.2 fun x r k hx hk => by
      rw [Nat.zero_add]
      exact hd x k (List.getElem?_eq_some_iff.1 hx).1 (by rw [hs.sq r (List.mem_of_getElem? hx)] at hk; exact hk)
    have eE : sclE A c = 0 := by unfold sclE; rw [if_pos e, if_neg (by omega), if_neg (by omega), if_pos hq]
    have eL : sclL A c = sqM A.length (sclX A c) := by unfold sclL; rw [if_pos eE]
    refine ⟨out, H, ?_, hfr, by rw [eL]; exact ho.ints⟩
    rw [eE, z_loop4]
    simp only [f39_l2, ints_len (IsRowsC.fr ha hfr), n_lss, decide_eq_false hlt, z_cond, cond_false, z_rest (ownR_good ho)]
  | m + 1, i, fuel, H, out, him, hf, hfr, ho, hd => by
    obtain ⟨fuel, rfl⟩ : ∃ q, fuel = q + 1 := ⟨fuel - 1, by omega⟩
    have hs := (chk_form.1 e).sq
    have h8 := hs.n8
    have hlt : i < A.length := by omega
    rw [z_loop4]
    simp only [f39_l2, ints_len (IsRowsC.fr ha hfr), n_lss, decide_eq_true hlt, z_cond, cond_true]
    rw [show (SV.int .i64 0) = i64 0 from rfl]
    rcases rscl_in C K hfr ha hs h0 h1 hfr.size hlt (by simp; omega) ho (slow.loop4 (f39_l2 slow K C) fuel) A.length 0 K H (.slice nilSl) (by omega) (by omega) (Fr.refl _ _) (by simpa [intsL] using Own.nil _ _) (fun q hq => absurd hq (Nat.not_lt_zero q)) with ⟨H', h2, f2, q, hq, hb⟩ | ⟨out', H2, h2, f2, o2, hall⟩
    · have hno : ¬ outB (fun i j => smallB (sclX A c i j)) A 0 = true := fun hh => by
        have hm := List.getElem_mem hlt
        have := outB_iff.1 hh i _ q (List.getElem?_eq_getElem hlt) (by rw [hs.sq _ hm]; exact hq)
        rw [Nat.zero_add, hb] at this
        cases this
      have eE : sclE A c = 3 := by unfold sclE; rw [if_pos e, if_neg (by omega), if_neg (by omega), if_neg hno]
      have eL : sclL A c = [] := by unfold sclL; rw [eE]; rfl
      rw [eE, eL]
      exact ⟨_, H', h2, Frame.trans hfr f2, (OwnR.nil 0 _).ints⟩
    · have eS : (List.range i).map (rowI A.length (sclX A c)) ++ [rowI A.length (sclX A c) i] = (List.range (i + 1)).map (rowI A.length (sclX A c)) := by
        rw [List.range_succ, List.map_append]
        rfl
      rw [eS] at o2
      obtain ⟨v, H3, h3, g3⟩ := rscl_out C K hK ha e h0 h1 m (i + 1) fuel H2 out' (by omega) (by omega) (Fr.trans hfr f2) o2 fun p q hp hq => by
        by_cases ep : p = i
        · subst ep; exact hall q hq
        · exact hd p q (by omega) hq
      exact ⟨v, H3, h2.trans h3, g3⟩
theorem det_one (A : Mx) : det 1 A = A 0 0 := by
  show 0 + 1 * (A 0 0 * 1) = _
  omega
theorem rscl_ok (K : Nat) (hK : 2000 < K) (d : Nat) (H : Heap) {va : SV} {A : List (List Int)} (ha : IsInts2 H va A) (e : chkE A = 0) (c : Int) :
    ∃ v H', runQ wk tab slow K (d + 1) 39 [va, .int .i64 c] H = some (.tuple [v, .int .i64 (sclE A c)], H') ∧ Frame H H' ∧ IsInts2 H' v (sclL A c) := by
  have hF := chk_form.1 e
  have hs := hF.sq
  have h8 := hs.n8
  show ∃ v H', f39 slow K (runQ wk tab slow K d) va (.int .i64 c) H = _ ∧ _
  simp only [f39, z_lss]
  by_cases c1 : c < 1
  · have eE : sclE A c = 2 := by unfold sclE; rw [if_pos e, if_pos c1]
    have eL : sclL A c = [] := by unfold sclL; rw [eE]; rfl
    rw [decide_eq_true c1, eE, eL]
    exact ⟨_, H, rfl, Fr.refl _ _, (OwnR.nil 0 _).ints⟩
  · rw [decide_eq_false c1]
    simp only [z_cond, cond_false]
    by_cases c2 : 16384 < c
    · have eE : sclE A c = 3 := by unfold sclE; rw [if_pos e, if_neg c1, if_pos c2]
      have eL : sclL A c = [] := by unfold sclL; rw [eE]; rfl
      have hp : 0 < ent A 0 0 := by
        have := hF.cor 1 (Nat.le_refl _) hs.n0
        rwa [det_one] at this
      obtain ⟨w, l1, l2⟩ := sq_ld ha hs (i := 0) (j := 0) hs.n0 hs.n0
      have hb : (ent A 0 0 != 0) = true := by
        rw [bne_iff_ne]
        omega
      have hl0 : ∀ k, slow.lss (i64 0) (i64 A.length) k = k (.bool true) := fun k => by rw [n_lss, decide_eq_true (show 0 < A.length from hs.n0)]
      have hgc : ∀ k, slow.gtr (.int .i64 c) (.int .i64 16384) k = k (.bool true) := fun k => by rw [z_gtr, decide_eq_true c2]
      have hne : ∀ k, slow.neq (.int .i64 (ent A 0 0)) (.int .i64 0) k = k (.bool true) := fun k => by rw [z_neq, hb]
      rw [eE, eL]
      refine ⟨.slice nilSl, H, ?_, Fr.refl _ _, (OwnR.nil 0 _).ints⟩
      obtain ⟨F, rfl⟩ : ∃ F, K = F + 1 := ⟨K - 1, by omega⟩
      rw [show (SV.int .i64 0) = i64 0 from rfl, z_loop4]
      simp only [f39_l2, ints_len ha, hl0, z_cond, cond_true]
      rw [show (SV.int .i64 0) = i64 0 from rfl, z_loop6]
      simp only [f39_l4, ints_len ha, hl0, z_cond, cond_true, hgc, z_guard, l1, l2, hne, f39_j6]
    · exact rscl_out (runQ wk tab slow K d) K hK ha e (by omega) (by omega) A.length 0 K H (.slice nilSl) (by omega) (by omega) (Fr.refl _ _) (by simpa using OwnR.nil _ _) (fun p q hp => absurd hp (Nat.not_lt_zero p))
/-! ### The law -/
theorem sumL_few (A B : List (List Int)) : FewI (sumL A B) := by
  unfold sumL
  split
  · rename_i h
    unfold sumE at h
    split at h
    · split at h
      · split at h
        · cases h
        · exact sqM_few (by omega) _
      · contradiction
    · contradiction
  · exact few_nil
theorem sclL_few (A : List (List Int)) (c : Int) : FewI (sclL A c) := by
  unfold sclL
  split
  · rename_i h
    unfold sclE at h
    split at h
    · rename_i e
      have := (chk_form.1 e).sq.n8
      exact sqM_few (by omega) _
    · contradiction
  · exact few_nil
theorem sums_j5 (K : Nat) (hK : 3000000 < K) (d : Nat) {Hb H : Heap} (fb : Frame Hb H) {va vb x y s t : SV} {A B : List (List Int)} {l1 l2 : Nat} (ha : IsInts2 Hb va A) (hb : IsInts2 Hb vb B) (hx : Twin l1 Hb x A) (hy : Twin l2 Hb y B) (fA : FewI A) (fB : FewI B) (hs : SpR Hb.size H s) (ht : SpR Hb.size H t) :
    ∃ H', f8_j5 slow K (runQ wk tab slow K (d + 20)) va vb x y s t (.bool false) H = some (.bool true, H') := by
  obtain ⟨H1, h1, f1, k1⟩ := spoil_ok K (by omega) (d + 19) H hs
  obtain ⟨H2, h2, f2, k2⟩ := spoil_ok K (by omega) (d + 19) H1 (k1.sp ht)
  have F : Frame Hb H2 := Fr.trans (Fr.trans fb f1) f2
  have h3 := kept_ok K (by omega) (d + 18) H2 (IsRowsC.fr ha F) (hx.fr F) fA
  have h4 := kept_ok K (by omega) (d + 18) H2 (IsRowsC.fr hb F) (hy.fr F) fB
  refine ⟨H2, ?_⟩
  simp only [f8_j5, z_cond, cond_false, h1, z_call, h2, h3, z_guard, cond_true, h4, f8_j7, z_rest_bool]
theorem sums_j4 (K : Nat) (hK : 3000000 < K) (d : Nat) {Hb H : Heap} (fb : Frame Hb H) {va vb x y s t w m : SV} {A B : List (List Int)} {c : Int} {l1 l2 : Nat} (ha : IsInts2 Hb va A) (hb : IsInts2 Hb vb B) (hx : Twin l1 Hb x A) (hy : Twin l2 Hb y B) (fA : FewI A) (fB : FewI B) (hs : OwnRR Hb.size H s (sumL A B)) (ht : OwnRR Hb.size H t (sclL A c)) (hw : IsInts2 H w (sumL A B)) (hm : IsInts2 H m (sclL A c)) :
    ∃ H', f8_j4 slow K (runQ wk tab slow K (d + 20)) va vb x y s (.int .i64 (sumE A B)) t (.int .i64 (sclE A c)) w m (.int .i64 (sclE A c)) (.int .i64 (sumE A B)) H = some (.bool true, H') := by
  have h1 := same7_ok K (by omega) (d + 19) H hs.ownR.ints hw (sumL_few A B)
  have h2 := same7_ok K (by omega) (d + 19) H ht.ownR.ints hm (sclL_few A c)
  obtain ⟨H', h3⟩ := sums_j5 K hK d fb ha hb hx hy fA fB (hs.sp (sumL_few A B)) (ht.sp (sclL_few A c))
  refine ⟨H', ?_⟩
  simp only [f8_j4, z_neq, bne_self_eq_false, z_guard, cond_false, h1, z_call, z_not, Bool.not_true, h2]
  exact h3
theorem sums_ok (K : Nat) (hK : 3000000 < K) (d : Nat) (H : Heap) {va vb : SV} {A B : List (List Int)} {c : Int} (ha : IsInts2 H va A) (_ : ∀ r ∈ A, ∀ z ∈ r, I64 z) (hb : IsInts2 H vb B) (_ : ∀ r ∈ B, ∀ z ∈ r, I64 z) (_ : I64 c) :
    ∃ H', runQ wk tab slow K (d + 21) 8 [va, vb, .int .i64 c] H = some (.bool true, H') := by
  have hw' : ∀ H, runQ wk tab slow K (d + 20) 9 [] H = some (.bool true, H) := fun H => rfl
  show ∃ H', f8 slow K (runQ wk tab slow K (d + 20)) va vb (.int .i64 c) H = _
  obtain ⟨t0, H1, h1, ho1, f1, _, _⟩ := z_lay2 (H := H) (lo := H.size) (Nat.le_refl _) (.slice nilSl) (.slice nilSl) (IsRowsC.flat ha) (IsRowsC.flat hb)
  have ha1 : IsInts2 H1 va A := IsRowsC.fr ha f1
  have hb1 : IsInts2 H1 vb B := IsRowsC.fr hb f1
  simp only [f8, hw', z_call, z_not, Bool.not_true, z_guard, cond_false, h1]
  rcases beyond7_ok K (by omega) (d + 19) H1 (Ts := [A, B]) ho1.arr (by simp) rfl (fun i u' T' hu' hT => by
    match i with
    | 0 => simp at hu' hT; subst hu' hT; exact ha1
    | 1 => simp at hu' hT; subst hu' hT; exact hb1
    | n + 2 => simp at hu') with h3 | ⟨hfew, h3⟩
  · refine ⟨H1, ?_⟩
    simp only [h3, z_call, f8_j1, z_cond, cond_true, hw', z_rest_bool]
  · have fA : FewI A := hfew A (by simp)
    have fB : FewI B := hfew B (by simp)
    obtain ⟨x, H2, h4, f2, t2⟩ := twin_ok K (by omega) (d + 19) H1 ha1 fA
    have hb2 : IsInts2 H2 vb B := IsRowsC.fr hb1 f2
    obtain ⟨y, H3, h5, f3, t3⟩ := twin_ok K (by omega) (d + 19) H2 hb2 fB
    have tx := t2.fr f3
    have ha3 : IsInts2 H3 va A := IsRowsC.fr ha1 (Frame.trans f2 f3)
    have hb3 : IsInts2 H3 vb B := IsRowsC.fr hb2 f3
    obtain ⟨s, H4, h6, f4, os⟩ := gsum_ok K (by omega) (d + 8) H3 tx.ints t3.ints
    rw [show d + 8 + 12 = d + 20 from rfl] at h6
    obtain ⟨t, H5, h7, f5, ot⟩ := gscale_ok K (by omega) (d + 8) H4 (tx.fr f4).ints (c := c)
    rw [show d + 8 + 12 = d + 20 from rfl] at h7
    have f35 := Frame.trans f4 f5
    obtain ⟨H6, h8, f6⟩ := rchk_ok K hK (d + 11) H5 (IsRowsC.fr ha3 f35)
    rw [show d + 11 + 9 = d + 20 from rfl] at h8
    have f36 := Frame.trans f35 f6
    obtain ⟨H7, h9, f7⟩ := rchk_ok K hK (d + 11) H6 (IsRowsC.fr hb3 f36)
    rw [show d + 11 + 9 = d + 20 from rfl] at h9
    have f37 := Frame.trans f36 f7
    have os7 := ((os.fr f5).fr f6).fr f7
    have ot7 := ((ot.mono f4.size).fr f6).fr f7
    simp only [h3, z_call, f8_j1, z_cond, cond_false, h4, h5, h6, z_ext0, z_ext1, h7, h8, h9, z_eql]
    by_cases e : chkE A = 0
    · have b : (chkE A == 0) = true := by simp [e]
      obtain ⟨m, H8, h10, f8, n8⟩ := rscl_ok K (by omega) (d + 19) H7 (IsRowsC.fr ha3 f37) e c
      have f38 := Frame.trans f37 f8
      rw [b]
      simp only [cond_true, h10, z_call, z_ext0, z_ext1, z_eql]
      by_cases e2 : chkE B = 0
      · have b2 : (chkE B == 0) = true := by simp [e2]
        obtain ⟨w, H9, h11, f9, n9⟩ := rsum7_ok K (by omega) (d + 19) H8 (IsRowsC.fr ha3 f38) (IsRowsC.fr hb3 f38) e e2
        obtain ⟨H', h12⟩ := sums_j4 K hK d (Frame.trans f38 f9) ha3 hb3 tx t3 fA fB ((os7.fr f8).fr f9) ((ot7.fr f8).fr f9) n9 (IsRowsC.fr n8 f9)
        refine ⟨H', ?_⟩
        rw [b2]
        simp only [z_cond, cond_true, h11, z_call, z_ext0, z_ext1, f8_j3]
        exact h12
      · have b2 : (chkE B == 0) = false := by simp [e2]
        have eE : sumE A B = chkE B := by unfold sumE; rw [if_pos e, if_neg e2]
        have eL : sumL A B = [] := by unfold sumL; rw [if_neg (by rw [eE]; exact e2)]
        obtain ⟨H', h12⟩ := sums_j4 K hK d f38 ha3 hb3 tx t3 fA fB (os7.fr f8) (ot7.fr f8) (w := .slice nilSl) (by rw [eL]; exact (OwnR.nil 0 _).ints) n8
        refine ⟨H', ?_⟩
        rw [eE] at h12 ⊢
        rw [b2]
        simp only [z_cond, cond_false, f8_j3]
        exact h12
    · have b : (chkE A == 0) = false := by simp [e]
      have eE : sumE A B = chkE A := by unfold sumE; rw [if_neg e]
      have eL : sumL A B = [] := by unfold sumL; rw [if_neg (by rw [eE]; exact e)]
      have eE' : sclE A c = chkE A := by unfold sclE; rw [if_neg e]
      have eL' : sclL A c = [] := by unfold sclL; rw [if_neg (by rw [eE']; exact e)]
      obtain ⟨H', h12⟩ := sums_j4 K hK d f37 ha3 hb3 tx t3 fA fB os7 ot7 (w := .slice nilSl) (m := .slice nilSl) (by rw [eL]; exact (OwnR.nil 0 _).ints) (by rw [eL']; exact (OwnR.nil 0 _).ints)
      refine ⟨H', ?_⟩
      rw [eE, eE'] at h12 ⊢
      rw [b]
      simp only [cond_false]
      exact h12
end Go.Sh.Of


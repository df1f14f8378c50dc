/- MatReads: true, whatever the rows and the numbers. -/
import Derived.Test.YtdibokcaoefeaaaReadsB
set_option linter.unusedVariables false
set_option linter.unusedSimpArgs false
namespace Go.Sh.Of
open Go Go.Sh

/-- The entry of a place that may lie outside. -/
def entAt (A : List (List Int)) (i j : Int) : Int := if 0 ≤ i ∧ i < A.length ∧ 0 ≤ j ∧ j < colsOf A then ent A i.toNat j.toNat else 0
theorem entAt_lt {A : List (List Int)} (hg : Good A) (i j : Int) : (entAt A i j).natAbs < 2 ^ 4096 := by
  unfold entAt
  split
  · rename_i h
    obtain ⟨_, _, _, h1⟩ := hg.at (i := i.toNat) (j := j.toNat) (by omega) (by omega)
    exact h1
  · exact Nat.two_pow_pos 4096
theorem reads_rows (K : Nat) (hK : 3000000 < K) (d : Nat) (H : Heap) {lo : Nat} {wa vb : SV} {A : List (List Int)} (hv : IsMat H (.agg [wa]) A) (hb : IsRRows lo H vb A) (hg : Good A) : ∃ t H1 u H2, runQ wk tab slow K (d + 20) 25 [.agg [wa]] H = some (t, H1) ∧ runQ wk tab slow K (d + 20) 29 [vb] H1 = some (u, H2) ∧ runQ wk tab slow K (d + 20) 28 [t, u] H2 = some (.bool true, H2) ∧ Frame H H2 := by
  have hrows := hg.rows
  obtain ⟨r, H1, h1, f1, t1⟩ := mtext_ok K (by omega) (d + 16) H hv hg.bigOk (by omega)
  obtain ⟨r2, H2, h2, f2, t2⟩ := rtell_ok K hK (d + 13) H1 (hb.fr f1) hg.bigOk (by omega)
  have h3 := rows_ok K (d + 19) H2 (t1.fr f2) t2 (by omega) (by simp [textRows]; omega) (fun q hq => by
    obtain ⟨z, hz, rfl⟩ := List.mem_map.1 hq
    have := (hg.bigOk z hz).1
    simp; omega)
  exact ⟨r, H1, r2, H2, h1, h2, h3, Frame.trans f1 f2⟩
theorem reads_end (K : Nat) (hK : 3000000 < K) (d : Nat) (H : Heap) {lo : Nat} {wa wc vb : SV} {A C : List (List Int)} {e : Int} (i j : Int) (hv : IsMat H (.agg [wa]) A) (hb : IsRRows lo H vb A) (hc : allFit A = true → e = 0 ∧ C = A) (hvc : IsMat H (.agg [wc]) C) (hg : Good A) (t : SV) (n fuel : Nat) :
    ∃ H', slow.loop11 (f5_l19 slow K (runQ wk tab slow K (d + 20))) (fuel + 1) (.int .i64 i) (.int .i64 j) (.box [wa]) vb (.str (textZ (entAt A i j))) (.bool (allFit A)) (.box [wc]) (.int .i64 e) t (i64 n) (i64 n) H = some (.bool true, H') := by
  obtain ⟨r, h1, hr⟩ := mat_at K (d + 18) H hv hg i j
  rw [show d + 18 + 2 = d + 20 from rfl] at h1
  have hbig := entAt_lt hg i j
  obtain ⟨H1, h2, f1⟩ := ztext_ok K (by omega) (d + 17) H hr hbig
  rw [show d + 17 + 3 = d + 20 from rfl] at h2
  have hn : ¬ n < n := Nat.lt_irrefl n
  have hs : (textZ (entAt A i j) == textZ (entAt A i j)) = true := beq_self_eq_true _
  have e2 : textZ (if 0 ≤ i ∧ i < A.length ∧ 0 ≤ j ∧ j < colsOf A then ent A i.toNat j.toNat else 0) = textZ (entAt A i j) := rfl
  rw [e2] at h2
  rw [z_loop11]
  simp only [f5_l19, n_lss, decide_eq_false hn, z_cond, cond_false, z_lload1, h1, z_call, h2, z_seql, hs, z_guard, cond_true, z_not]
  cases hf : allFit A with
  | false =>
    obtain ⟨t, H2, u, H3, g1, g2, g3, g4⟩ := reads_rows K hK d H1 (hv.fr f1) (hb.fr f1) hg
    refine ⟨H3, ?_⟩
    simp only [Bool.not_false, cond_true, g1, z_call, g2, g3, f5_j27, z_rest_bool]
  | true =>
    obtain ⟨he, hC⟩ := hc hf
    subst he
    subst hC
    have h3 := msame_ok K (by omega) (d + 17) H1 (hv.fr f1) (hvc.fr f1) hg hg
    rw [show d + 17 + 3 = d + 20 from rfl, decide_eq_true rfl] at h3
    obtain ⟨t, H2, u, H3, g1, g2, g3, g4⟩ := reads_rows K hK d H1 (hv.fr f1) (hb.fr f1) hg
    refine ⟨H3, ?_⟩
    simp only [Bool.not_true, cond_false, z_eql, beq_self_eq_true, z_guard, cond_true, z_lload1, h3, z_call, g1, g2, g3, f5_j27, z_rest_bool]
theorem spo_out (K : Nat) (hK : 3000000 < K) (d : Nat) {H0 : Heap} {lo lb : Nat} (hlo : lo = H0.size) {wa wc vb t : SV} {A C : List (List Int)} {e : Int} (i j : Int) (hv : IsMat H0 (.agg [wa]) A) (hb : IsRRows lb H0 vb A) (hc : allFit A = true → e = 0 ∧ C = A) (hvc : IsMat H0 (.agg [wc]) C) (hg : Good A) {ws : List SV} (hws : ∀ w ∈ ws, isSlice w) (hla : ws.length = A.length) : ∀ (m x fuel : Nat) (H : Heap), x + m = A.length → m < fuel → Fr lo H0 H → Own lo H t ws → (∀ (q : Nat) w r, ws[q]? = some w → A[q]? = some r → ∃ l : List (List UInt8), Own lo H w (strs l) ∧ l.length = r.length) →
    ∃ H', slow.loop11 (f5_l19 slow K (runQ wk tab slow K (d + 20))) fuel (.int .i64 i) (.int .i64 j) (.box [wa]) vb (.str (textZ (entAt A i j))) (.bool (allFit A)) (.box [wc]) (.int .i64 e) t (i64 A.length) (i64 x) H = some (.bool true, H')
  | 0, x, fuel, H, hxm, hf, hfr, ht, hall => by
    obtain ⟨fuel, rfl⟩ : ∃ m, fuel = m + 1 := ⟨fuel - 1, by omega⟩
    have hx : x = A.length := by omega
    subst hx
    subst hlo
    exact reads_end K hK d H i j (hv.fr hfr) (hb.fr hfr) hc (hvc.fr hfr) hg t A.length fuel
  | m + 1, x, fuel, H, hxm, hf, hfr, ht, hall => by
    obtain ⟨fuel, rfl⟩ : ∃ m, fuel = m + 1 := ⟨fuel - 1, by omega⟩
    have hx : x < A.length := by omega
    have hrows := hg.rows
    have hc16 := hg.c16
    obtain ⟨r, hr⟩ : ∃ r, A[x]? = some r := ⟨_, List.getElem?_eq_getElem hx⟩
    obtain ⟨w, hw⟩ : ∃ w, ws[x]? = some w := ⟨_, List.getElem?_eq_getElem (by omega)⟩
    obtain ⟨l, how, hll⟩ := hall x w r hw hr
    have hwl : ∀ k, slow.len w k = k (i64 r.length) := fun k => by rw [how.arr.len]; simp [hll]
    have hgl : ∀ r ∈ A, r.length ≤ 16 := fun r hr => by have := hg.rect r hr; omega
    have hrl := hgl r (List.mem_of_getElem? hr)
    obtain ⟨H1, h1, f1, ht1, hall1⟩ := spo_in K (runQ wk tab slow K (d + 20)) (H0 := H) hws (by omega) hla hgl hw hr (.int .i64 i) (.int .i64 j) (.box [wa]) vb (.str (textZ (entAt A i j))) (.bool (allFit A)) (.box [wc]) (.int .i64 e) (i64 A.length) (slow.loop11 (f5_l19 slow K (runQ wk tab slow K (d + 20))) fuel) r.length 0 K H (by omega) (by omega) (Fr.refl _ _) ht hall
    obtain ⟨H2, h2⟩ := spo_out K hK d hlo i j hv hb hc hvc hg hws hla m (x + 1) fuel H1 (by omega) (by omega) (hfr.trans f1) ht1 hall1
    refine ⟨H2, ?_⟩
    rw [z_loop11]
    simp only [f5_l19, n_lss, decide_eq_true hx, z_cond, cond_true, ht.arr.load hw, hwl]
    rw [show (SV.int .i64 0) = i64 0 from rfl, h1]
    exact h2
theorem reads_j17 (K : Nat) (hK : 3000000 < K) (d : Nat) (H : Heap) {lo : Nat} {wa vb nu : SV} {A N : List (List Int)} (i j : Int) (hv : IsMat H (.agg [wa]) A) (hb : IsRRows lo H vb A) (hg : Good A) (hn : IsInts2 H nu N) (hN : N = if allFit A then A else []) :
    ∃ H', f5_j17 slow K (runQ wk tab slow K (d + 20)) (.int .i64 i) (.int .i64 j) (.box [wa]) vb (.str (textZ (entAt A i j))) (.bool (allFit A)) nu (.bool false) H = some (.bool true, H') := by
  have hsm : ∀ r ∈ N, ∀ z ∈ r, I64 z := by
    rw [hN]
    cases hf : allFit A with
    | true => exact fit_all hf
    | false => intro r hr; cases hr
  have hNl : N.length < 100000 := by
    have := hg.rows
    rw [hN]
    split
    · omega
    · simp
  obtain ⟨r1, H1, h1, f1, m1⟩ := mof_ok K (by omega) (d + 14) H hn hsm hNl
  rw [show d + 14 + 6 = d + 20 from rfl] at h1
  obtain ⟨wc, rfl⟩ := m1.agg
  have hrows := hg.rows
  obtain ⟨t, H2, ws, h2, f2, ot, hwl, hws, hall⟩ := mtx_ok K (by omega) (d + 16) H1 (hv.fr f1) hg.bigOk (by omega)
  rw [show d + 16 + 4 = d + 20 from rfl] at h2
  have g12 := Frame.trans f1 f2
  have hc : allFit A = true → ofErr N = 0 ∧ ofMat N = A := fun hf => by
    rw [hN, if_pos hf]
    exact good_of hg
  have htl : ∀ k, slow.len t k = k (i64 A.length) := fun k => by rw [ot.arr.len, hwl]
  obtain ⟨H3, h3⟩ := spo_out K hK d (H0 := H1) (lo := H1.size) rfl (t := t) i j (hv.fr f1) (hb.fr f1) hc m1.mat hg hws hwl A.length 0 K H2 (by omega) (by omega) f2 ot (fun q w r hw hr => ⟨_, hall q w r hw hr, by simp⟩)
  refine ⟨H3, ?_⟩
  simp only [f5_j17, z_cond, cond_false, h1, z_call, z_ext0, z_ext1, z_bst1, z_lload1, h2, htl]
  rw [show (SV.int .i64 0) = i64 0 from rfl]
  exact h3
theorem fit_out (K : Nat) (hK : 3000000 < K) (d : Nat) (H : Heap) {lo : Nat} {wa vb : SV} {A : List (List Int)} (i j : Int) (hv : IsMat H (.agg [wa]) A) (hb : IsRRows lo H vb A) (hg : Good A) : ∀ (m x fuel : Nat) (b : Bool), x + m = A.length → m < fuel → (b && (A.drop x).all fun r => r.all fits64) = allFit A →
    ∃ H', slow.loop9 (f5_l8 slow K (runQ wk tab slow K (d + 20))) fuel (.int .i64 i) (.int .i64 j) (.box [wa]) vb (i64 A.length) (.str (textZ (entAt A i j))) (.bool b) (i64 A.length) (i64 x) H = some (.bool true, H')
  | 0, x, fuel, b, hxm, hf, hb2 => by
    obtain ⟨fuel, rfl⟩ : ∃ m, fuel = m + 1 := ⟨fuel - 1, by omega⟩
    have hx : ¬ x < A.length := by omega
    rw [List.drop_of_length_le (by omega), List.all_nil, Bool.and_true] at hb2
    subst hb2
    obtain ⟨nu, H1, h1, f1, n1, n2⟩ := mi64_ok K (by omega) (d + 17) H hv hg
    rw [show d + 17 + 3 = d + 20 from rfl] at h1
    have hne : (!(allFit A == allFit A)) = false := by rw [beq_self_eq_true]; rfl
    rw [z_loop9]
    simp only [f5_l8, n_lss, decide_eq_false hx, z_cond, cond_false, z_lload1, h1, z_call, z_ext0, z_ext1, z_bneq, hne, z_guard, z_not]
    cases hf : allFit A with
    | true =>
      have hn := n1 hf
      obtain ⟨H2, h2⟩ := reads_j17 K hK d H1 i j (hv.fr f1) (hb.fr f1) hg hn (by rw [hf]; rfl)
      have hnl : ∀ k, slow.len nu k = k (i64 A.length) := fun k => by rw [hn.len]; simp
      have hd : decide (A.length ≠ A.length) = false := decide_eq_false fun h => h rfl
      rw [hf] at h2
      refine ⟨H2, ?_⟩
      simp only [Bool.not_true, cond_false, cond_true, z_guard, hnl, n_neq, hd, h2]
    | false =>
      have hn := n2 hf
      subst hn
      obtain ⟨H2, h2⟩ := reads_j17 K hK d H1 (nu := .slice nilSl) (N := []) i j (hv.fr f1) (hb.fr f1) hg ⟨[], Arr.nil _, rfl, fun q w cs hw => by simp at hw⟩ (by rw [hf]; rfl)
      rw [hf] at h2
      refine ⟨H2, ?_⟩
      have hl0 : ∀ k, slow.len (.slice nilSl) k = k (.int .i64 0) := fun k => rfl
      simp only [Bool.not_false, cond_true, hl0, z_neq, bne_self_eq_false, cond_false, z_guard, h2]
  | m + 1, x, fuel, b, hxm, hf, hb2 => by
    obtain ⟨fuel, rfl⟩ : ∃ m, fuel = m + 1 := ⟨fuel - 1, by omega⟩
    have hx : x < A.length := by omega
    have hrows := hg.rows
    have hc16 := hg.c16
    obtain ⟨r, hr⟩ : ∃ r, A[x]? = some r := ⟨_, List.getElem?_eq_getElem hx⟩
    have hrl := hg.rect r (List.mem_of_getElem? hr)
    have hd : A.drop x = r :: A.drop (x + 1) := List.drop_eq_getElem?_toList_append (l := A) (i := x) ▸ by rw [hr]; rfl
    obtain ⟨w, hw, hzs⟩ := hb.load hr
    rw [hd, List.all_cons, ← Bool.and_assoc] at hb2
    obtain ⟨H', h'⟩ := fit_out K hK d H i j hv hb hg m (x + 1) fuel (b && r.all fits64) (by omega) (by omega) hb2
    refine ⟨H', ?_⟩
    rw [z_loop9]
    simp only [f5_l8, n_lss, decide_eq_true hx, z_cond, cond_true, hw, hzs.len]
    rw [show (SV.int .i64 0) = i64 0 from rfl, fit_in K (by omega) d hb hr (hg.big r (List.mem_of_getElem? hr)) (by omega) (by omega) _ _ _ _ _ _ _ r.length 0 K b (by omega) (by omega), List.drop_zero]
    exact h'
theorem reads_j7 (K : Nat) (hK : 3000000 < K) (d : Nat) (H : Heap) {lo : Nat} {wa vb : SV} {A : List (List Int)} (i j : Int) (hv : IsMat H (.agg [wa]) A) (hb : IsRRows lo H vb A) (hg : Good A) :
    ∃ H', f5_j7 slow K (runQ wk tab slow K (d + 20)) (.int .i64 i) (.int .i64 j) (.box [wa]) vb (i64 A.length) (.str (textZ (entAt A i j))) H = some (.bool true, H') := by
  have hrows := hg.rows
  simp only [f5_j7, hb.len]
  rw [show (SV.int .i64 0) = i64 0 from rfl]
  exact fit_out K hK d H i j hv hb hg A.length 0 K true (by omega) (by omega) (by rw [List.drop_zero, Bool.true_and]; rfl)
theorem reads_j4 (K : Nat) (hK : 3000000 < K) (d : Nat) (H : Heap) {lo : Nat} {wa vb : SV} {A : List (List Int)} (i j : Int) (hv : IsMat H (.agg [wa]) A) (hb : IsRRows lo H vb A) (hg : Good A) :
    ∃ H', f5_j4 slow K (runQ wk tab slow K (d + 20)) (.int .i64 i) (.int .i64 j) (.box [wa]) vb (i64 A.length) (i64 (colsOf A)) (.bool false) H = some (.bool true, H') := by
  have out : ¬ (0 ≤ i ∧ i < A.length ∧ 0 ≤ j ∧ j < colsOf A) → ∃ H', f5_j6 slow K (runQ wk tab slow K (d + 20)) (.int .i64 i) (.int .i64 j) (.box [wa]) vb (i64 A.length) (.str [48]) (.bool false) H = some (.bool true, H') := fun h => by
    have e : entAt A i j = 0 := if_neg h
    have := reads_j7 K hK d H i j hv hb hg
    rw [e] at this
    exact this
  simp only [f5_j4, z_cond, cond_false, z_geq, z_lss, z_guard]
  by_cases h1 : i ≥ 0
  · rw [decide_eq_true h1, cond_true]
    by_cases h2 : i < A.length
    · rw [decide_eq_true h2, cond_true]
      by_cases h3 : j ≥ 0
      · rw [decide_eq_true h3, cond_true]
        by_cases h4 : j < colsOf A
        · rw [decide_eq_true h4]
          have hin : 0 ≤ i ∧ i < A.length ∧ 0 ≤ j ∧ j < colsOf A := ⟨h1, h2, h3, h4⟩
          have e : entAt A i j = ent A i.toNat j.toNat := if_pos hin
          obtain ⟨p, rfl⟩ : ∃ p : Nat, i = p := ⟨i.toNat, by omega⟩
          obtain ⟨q, rfl⟩ : ∃ q : Nat, j = q := ⟨j.toNat, by omega⟩
          obtain ⟨u, x, g1, g2, g3, g4, g5⟩ := hb.entry hg (i := p) (j := q) (by omega) (by omega)
          obtain ⟨H1, h5, f1⟩ := rztext_ok K (d + 14) H g4 hK (by have := big_dec g5; omega) (by have := rbig g5; omega)
          rw [show d + 14 + 6 = d + 20 from rfl] at h5
          obtain ⟨H2, h6⟩ := reads_j7 K hK d H1 (p : Int) (q : Int) (hv.fr f1) (hb.fr f1) hg
          rw [e] at h6
          refine ⟨H2, ?_⟩
          simp only [f5_j6, z_cond, cond_true, g1, g3, h5, z_call]
          exact h6
        · rw [decide_eq_false h4]
          exact out fun h => h4 h.2.2.2
      · rw [decide_eq_false h3, cond_false]
        exact out fun h => h3 h.2.2.1
    · rw [decide_eq_false h2, cond_false]
      exact out fun h => h2 h.2.1
  · rw [decide_eq_false h1, cond_false]
    exact out fun h => h1 h.1
theorem reads_ok (K : Nat) (hK : 3000000 < K) (d : Nat) (H : Heap) {va : SV} {T : List (List (List UInt8))} (i j : Int) (hva : IsTexts H va T) (ca : Cutable va) (la : TextsOk K T) :
    ∃ H', runQ wk tab slow K (d + 21) 5 [va, .int .i64 i, .int .i64 j] H = some (.bool true, H') := by
  have hw : ∀ H, runQ wk tab slow K (d + 20) 6 [] H = some (.bool true, H) := fun H => rfl
  show ∃ H', f5 slow K (runQ wk tab slow K (d + 20)) va (.int .i64 i) (.int .i64 j) H = _
  obtain ⟨v, H1, h1, ho, f1, _, _⟩ := z_lay1 (H := H) (lo := H.size) (Nat.le_refl _) (.slice nilSl) hva.flat
  simp only [f5, hw, z_call, z_not, Bool.not_true, z_guard, cond_false, h1]
  rcases beyond_ok K (by omega) (d + 19) H1 (Ts := [T]) ho.arr (by simp) rfl (fun i u T' hu hT => by
    match i with
    | 0 => simp at hu hT; subst hu hT; exact hva.fr f1
    | n + 1 => simp at hu) with h2 | ⟨hfew, h2⟩
  · rw [show d + 19 + 1 = d + 20 from rfl] at h2
    refine ⟨H1, ?_⟩
    simp only [h2, z_call, f5_j1, z_cond, cond_true, hw, z_rest_bool]
  · rw [show d + 19 + 1 = d + 20 from rfl] at h2
    have fa := hfew T (by simp)
    obtain ⟨w1, r1, H2, h3, f2, m1, n1⟩ := read_ok K hK (d + 8) H1 (hva.fr f1) ca fa la
    rw [show d + 8 + 12 = d + 20 from rfl] at h3
    have hg := parseM_good T
    have hsz := msize_ok K (d + 19) H2 m1
    rw [show d + 19 + 1 = d + 20 from rfl] at hsz
    have hcl := rcols_ok K (d + 19) H2 n1
    rw [show d + 19 + 1 = d + 20 from rfl] at hcl
    obtain ⟨H3, h4⟩ := reads_j4 K hK d H2 i j m1 n1 hg
    refine ⟨H3, ?_⟩
    have hd1 : decide ((parseM T).length ≠ (parseM T).length) = false := decide_eq_false fun h => h rfl
    have hd2 : decide (colsOf (parseM T) ≠ colsOf (parseM T)) = false := decide_eq_false fun h => h rfl
    simp only [h2, z_call, f5_j1, z_cond, cond_false, h3, z_ext0, z_ext1, z_ext2, z_bst1, z_not, Bool.not_true, z_lload1, hsz, n1.len, n_neq, hd1, z_guard, hcl, hd2, h4]
end Go.Sh.Of

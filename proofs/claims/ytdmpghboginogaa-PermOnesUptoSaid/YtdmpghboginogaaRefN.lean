/- Contracts of the reference's layer 1: Mul, Div, Small, Text. -/
import Derived.Test.YtdmpghboginogaaRefM
set_option linter.unusedVariables false
set_option linter.unusedSimpArgs false
namespace Go.Sh.Of
open Go

theorem rmul_in (C : CallC) (K : Nat) (lo : Nat) {H0 : Heap} {va w v : SV} {xs ys : List Nat} (ha : Arr H0 va (rl xs)) (hw : Arr H0 w (rl ys)) (hlo : lo = H0.size) (hys : RSmall ys) (k11 : SV → SV → SV → SV → Heap → Rs) {i x : Nat} (hx : xs[i]? = some x) (hxD : x < 65536) (hla : xs.length < 10000000) (hlb : ys.length < 10000000) {r : Nat} {S : Nat} : ∀ (m k fuel : Nat) (c : Nat) (H : Heap) (o : List Nat), k + m = ys.length → m + 1 < fuel → c < 65536 → RSmall o → o.length = xs.length + ys.length → Frame H0 H → Wr lo H v r [] (rl o) [] → (∀ q, i + ys.length ≤ q → q < o.length → o[q]? = some 0) → rval o + D ^ (i + k) * (c + x * rval (ys.drop k)) = S →
    ∃ o' H', slow.loop6 (f33_l3 slow K C k11) fuel va w v (i64 i) (u64 c) (i64 k) H = k11 va w v (i64 (i + 1)) H' ∧ Frame H0 H' ∧ Wr lo H' v r [] (rl o') [] ∧ RSmall o' ∧ o'.length = xs.length + ys.length ∧ rval o' = S ∧ (∀ q, i + 1 + ys.length ≤ q → q < o'.length → o'[q]? = some 0)
  | 0, k, fuel, c, H, o, hkm, hf, hc, hos, hol, hfr, hwr, hz, hv => by
    obtain ⟨fuel, rfl⟩ : ∃ m, fuel = m + 1 := ⟨fuel - 1, by omega⟩
    have hk : k = ys.length := by omega
    subst hk
    have hi : i < xs.length := (List.getElem?_eq_some_iff.1 hx).1
    have hw' := hw.fr hfr
    rw [List.drop_length] at hv
    simp only [rval, Nat.mul_zero, Nat.add_zero] at hv
    have hlt : ¬ (ys.length < ys.length) := Nat.lt_irrefl _
    by_cases hc0 : c = 0
    · subst hc0
      refine ⟨o, H, ?_, hfr, hwr, hos, hol, by simpa using hv, fun q h1 h2 => hz q (by omega) h2⟩
      rw [z_loop6]
      have h00 : ¬ (((0 : Nat) : Int) > 0) := by omega
      simp only [f33_l3, rlen hw', n_lss, decide_eq_false hlt, z_guard, cond_false, z_gtr, decide_eq_false h00, f33_j4, z_cond]
      rw [show (SV.int .i64 1) = i64 1 from rfl, n_addi _ (by omega)]
    · have h0 : o[i + ys.length]? = some 0 := hz _ (Nat.le_refl _) (by omega)
      obtain ⟨fuel, rfl⟩ : ∃ m, fuel = m + 1 := ⟨fuel - 1, by omega⟩
      have hcp : ((c : Nat) : Int) > 0 := by omega
      have hm1 : (0 + c) % 65536 % 4294967296 = c := by omega
      obtain ⟨H1, st, hw1, f1, sz1, _⟩ := hwr.store (i := i + ys.length) (by simp; omega) (x := u32 c) rfl .i64
      rw [rl_set] at hw1
      have hvs := rval_set (z := c) h0
      have hfr1 : Frame H0 H1 := Fr.trans hfr (by rw [← hlo]; exact f1)
      have hlt2 : ¬ (ys.length + 1 < ys.length) := by omega
      have h00 : ¬ ((((0 + c) / 65536 : Nat) : Int) > 0) := by omega
      refine ⟨o.set (i + ys.length) c, H1, ?_, hfr1, hw1, rsmall_set hos hc, by simpa using hol, ?_, fun q h1 h2 => ?_⟩
      · rw [z_loop6]
        simp only [f33_l3, rlen hw', n_lss, decide_eq_false hlt, z_guard, cond_false, z_gtr, decide_eq_true hcp, f33_j4, z_cond, cond_true]
        rw [n_addi _ (by omega), hwr.arr.load (rl_get h0), n_conv64 _ .u32 0 (by omega), n_add64 _ (by omega)]
        unfold f33_j6
        rw [n_addi _ (by omega), show (SV.int .u64 65536) = u64 65536 from rfl, n_rem _ .u64 _ (by decide), n_conv32, hm1, st, n_quo64 _ _ (by decide) (by omega), show (SV.int .i64 1) = i64 1 from rfl, n_addi _ (by omega)]
        rw [z_loop6]
        simp only [f33_l3, rlen (hw.fr hfr1), n_lss, decide_eq_false hlt2, z_guard, cond_false, z_gtr, decide_eq_false h00, f33_j4, z_cond]
        rw [show (SV.int .i64 1) = i64 1 from rfl, n_addi _ (by omega)]
      · rw [← hv]
        rw [Nat.mul_comm c] at hvs
        omega
      · rw [List.getElem?_set_ne (by omega)]
        exact hz q (by omega) (by simpa using h2)
  | m + 1, k, fuel, c, H, o, hkm, hf, hc, hos, hol, hfr, hwr, hz, hv => by
    obtain ⟨fuel, rfl⟩ : ∃ m, fuel = m + 1 := ⟨fuel - 1, by omega⟩
    have hlt : k < ys.length := by omega
    have hi : i < xs.length := (List.getElem?_eq_some_iff.1 hx).1
    have hw' := hw.fr hfr
    have ha' := ha.fr hfr
    obtain ⟨y, hy⟩ : ∃ y, ys[k]? = some y := ⟨_, List.getElem?_eq_getElem hlt⟩
    have hyD : y < 65536 := hys y (List.mem_of_getElem? hy)
    have hdb : ys.drop k = y :: ys.drop (k + 1) := List.drop_eq_getElem?_toList_append (l := ys) (i := k) ▸ by rw [hy]; rfl
    obtain ⟨z, hz1⟩ : ∃ z, o[i + k]? = some z := ⟨_, List.getElem?_eq_getElem (by omega)⟩
    have hzD : z < 65536 := hos z (List.mem_of_getElem? hz1)
    have hxy : x * y ≤ 65535 * 65535 := Nat.mul_le_mul (by omega) (by omega)
    obtain ⟨p, q, hp, hq, hpD, hqD, hpq⟩ : ∃ p q, (z + c + x * y) % 65536 = p ∧ (z + c + x * y) / 65536 = q ∧ p < D ∧ q < 65536 ∧ z + c + x * y = p + D * q := by
      refine ⟨_, _, rfl, rfl, Nat.mod_lt _ (by decide), by omega, (Nat.mod_add_div _ 65536).symm⟩
    have hm1 : p % 4294967296 = p := Nat.mod_eq_of_lt (by show p < 4294967296; have : p < 65536 := hpD; omega)
    obtain ⟨H1, st, hw1, f1, sz1, _⟩ := hwr.store (i := i + k) (by simp; omega) (x := u32 p) rfl .i64
    rw [rl_set] at hw1
    have hvs := rval_set (z := p) hz1
    obtain ⟨o', H', h1, h2, h3, h4, h5, h6, h7⟩ := rmul_in C K lo ha hw hlo hys k11 hx hxD hla hlb (S := S) m (k + 1) fuel q H1 (o.set (i + k) p) (by omega) (by omega) hqD (rsmall_set hos hpD) (by simpa using hol) (Fr.trans hfr (by rw [← hlo]; exact f1)) hw1 (fun t q1 q2 => by
        rw [List.getElem?_set_ne (by omega)]
        exact hz t q1 (by simpa using q2)) (by
        rw [← hv, hdb]
        simp only [rval]
        rw [show i + (k + 1) = (i + k) + 1 by omega, Nat.pow_succ]
        generalize rval (ys.drop (k + 1)) = bv at *
        generalize D ^ (i + k) = P at *
        have e2 : P * (z + c + x * y) = P * (p + D * q) := by rw [hpq]
        have e3 : x * (D * bv) = D * (x * bv) := by rw [← Nat.mul_assoc, Nat.mul_comm x D, Nat.mul_assoc]
        simp only [Nat.mul_add, Nat.mul_assoc, e3] at e2 hvs ⊢
        rw [Nat.mul_comm z P, Nat.mul_comm p P] at hvs
        omega)
    refine ⟨o', H', ?_, h2, h3, h4, h5, h6, h7⟩
    rw [z_loop6]
    simp only [f33_l3, rlen hw', n_lss, decide_eq_true hlt, z_guard, cond_true, f33_j4, z_cond]
    rw [n_addi _ (by omega), hwr.arr.load (rl_get hz1), n_conv64 _ .u32 z (by omega), n_add64 _ (by omega)]
    simp only [rlen hw', n_lss, decide_eq_true hlt, z_cond, cond_true, ha'.load (rl_get hx), hw'.load (rl_get hy)]
    rw [n_conv64 _ .u32 x (by omega), n_conv64 _ .u32 y (by omega), n_mul64 _ (by omega), n_add64 _ (by omega)]
    unfold f33_j6
    rw [n_addi _ (by omega), show (SV.int .u64 65536) = u64 65536 from rfl, n_rem _ .u64 _ (by decide), n_conv32, hp, hm1, st, n_quo64 _ _ (by decide) (by omega), hq, show (SV.int .i64 1) = i64 1 from rfl, n_addi _ (by omega)]
    exact h1
theorem rmul_out (K : Nat) (d : Nat) (lo : Nat) {H0 : Heap} {v va w : SV} {xs ys : List Nat} (ha : Arr H0 va (rl xs)) (hw : Arr H0 w (rl ys)) (hlo : lo = H0.size) (hxs : RSmall xs) (hys : RSmall ys) (hla : xs.length < 10000000) (hlb : ys.length < 10000000) (hK : xs.length + ys.length + 2 < K) {r : Nat} : ∀ (m i fuel : Nat) (H : Heap) (o : List Nat), i + m = xs.length → m < fuel → RSmall o → o.length = xs.length + ys.length → Frame H0 H → Wr lo H v r [] (rl o) [] → (∀ q, i + ys.length ≤ q → q < o.length → o[q]? = some 0) → rval o + D ^ i * (rval (xs.drop i) * rval ys) = rval xs * rval ys →
    ∃ rr H', slow.loop4 (f33_l1 slow K (runQ wk tab slow K (d + 1))) fuel va w v (i64 i) H = some (rr, H') ∧ Frame H0 H' ∧ IsR H' rr (rval xs * rval ys)
  | 0, i, fuel, H, o, hij, hf, hos, hol, hfr, hwr, hz, hv => by
    obtain ⟨fuel, rfl⟩ : ∃ m, fuel = m + 1 := ⟨fuel - 1, by omega⟩
    have hi : i = xs.length := by omega
    subst hi
    rw [List.drop_length] at hv
    have hvo : rval o = rval xs * rval ys := by simpa [rval] using hv
    obtain ⟨sl, h2, h3, _⟩ := rcut_ok K d H (ds := o) hwr.arr hos (by omega) (by omega)
    rw [hvo] at h3
    rw [z_loop4]
    have hlt : ¬ (xs.length < xs.length) := Nat.lt_irrefl _
    simp only [f33_l1, rlen (ha.fr hfr), n_lss, decide_eq_false hlt, z_cond, cond_false, h2, z_call, z_rest h3.good]
    exact ⟨_, H, rfl, hfr, h3⟩
  | m + 1, i, fuel, H, o, hij, hf, hos, hol, hfr, hwr, hz, hv => by
    obtain ⟨fuel, rfl⟩ : ∃ m, fuel = m + 1 := ⟨fuel - 1, by omega⟩
    have hlt : i < xs.length := by omega
    obtain ⟨x, hx⟩ : ∃ x, xs[i]? = some x := ⟨_, List.getElem?_eq_getElem hlt⟩
    have hdx : xs.drop i = x :: xs.drop (i + 1) := List.drop_eq_getElem?_toList_append (l := xs) (i := i) ▸ by rw [hx]; rfl
    obtain ⟨o', H1, h1, f1, w1, s1, l1, v1, z1⟩ := rmul_in (runQ wk tab slow K (d + 1)) K lo ha hw hlo hys (slow.loop4 (f33_l1 slow K (runQ wk tab slow K (d + 1))) fuel) hx (hxs x (List.mem_of_getElem? hx)) hla hlb (S := rval o + D ^ i * (x * rval ys)) ys.length 0 K 0 H o (by omega) (by omega) (by decide) hos hol hfr hwr hz (by rw [List.drop_zero]; simp)
    obtain ⟨rr, H2, h2, f2, n2⟩ := rmul_out K d lo ha hw hlo hxs hys hla hlb hK m (i + 1) fuel H1 o' (by omega) (by omega) s1 l1 f1 w1 z1 (by
      rw [v1, ← hv, hdx, Nat.pow_succ]
      simp only [rval]
      generalize rval (xs.drop (i + 1)) = xv
      generalize rval ys = bv
      generalize D ^ i = P
      simp only [Nat.mul_add, Nat.add_mul, Nat.mul_assoc]
      omega)
    refine ⟨rr, H2, ?_, f2, n2⟩
    rw [z_loop4]
    simp only [f33_l1, rlen (ha.fr hfr), n_lss, decide_eq_true hlt, z_cond, cond_true]
    rw [show (SV.int .u64 0) = u64 0 from rfl, show (SV.int .i64 0) = i64 0 from rfl, h1]
    exact h2
theorem rmul01_ok (K : Nat) (d : Nat) (H : Heap) {v w : SV} {a b : Nat} (hx : IsR H v a) (hy : IsR H w b) (hla : (rdigs a).length < 10000000) (hlb : (rdigs b).length < 10000000) (hK : (rdigs a).length + (rdigs b).length + 2 < K) :
    ∃ r H', runQ wk tab slow K (d + 2) 33 [v, w] H = some (r, H') ∧ Frame H H' ∧ IsR H' r (a * b) := by
  show ∃ r H', f33 slow K (runQ wk tab slow K (d + 1)) v w H = _ ∧ _
  simp only [f33, rlen hx, rlen hy]
  rw [n_addi _ (by omega)]
  obtain ⟨u, H1, h1, w1, f1, ru, _, _⟩ := z_makeW (H := H) (lo := H.size) (Nat.le_refl _) 4 (.int .u32 0) ((rdigs a).length + (rdigs b).length) (by omega) (roomy_small (by omega)) .i64 .i64
  rw [rl_zeros] at w1
  rw [h1]
  have := rmul_out K d H.size hx hy rfl (rdigs_small a) (rdigs_small b) hla hlb hK (rdigs a).length 0 K H1 (List.replicate ((rdigs a).length + (rdigs b).length) 0) (by omega) (by omega) (rsmall_zeros _) (by simp) f1 w1 (fun q _ h => by rw [List.getElem?_replicate]; rw [List.length_replicate] at h; rw [if_pos h]) (by rw [rval_zeros, List.drop_zero]; simp)
  rw [rval_digs, rval_digs] at this
  exact this
/-- Lengths of products and the like. -/
theorem rdigs_lt (n : Nat) : n < D ^ (rdigs n).length := by have := rval_lt (rdigs_small n); rwa [rval_digs] at this
theorem rdigs_mono {a b : Nat} (h : a ≤ b) : (rdigs a).length ≤ (rdigs b).length := rdigs_len_le (Nat.lt_of_le_of_lt h (rdigs_lt b))
/-- The digit by halving. -/
theorem rdiv_in (K : Nat) (d : Nat) {H0 : Heap} {va w v rv : SV} {ds : List Nat} {b R : Nat} (lo : Nat) (hlo : lo = H0.size) (hw : IsR H0 w b) (hbl : (rdigs b).length < 1000000) (hK : 3000000 < K) {r : Nat} {Hr : Heap} (hrv : IsR Hr rv R) (hfr0 : Frame H0 Hr) (hwr : Wr lo Hr v r [] (rl ds) []) {i : Nat} (hi : i < ds.length) (hi9 : i < 1000000) (hRl : (rdigs R).length < 2000000) (hb : 0 < b) (hnr : ¬ inRow rv r) (k12 : SV → SV → SV → SV → SV → Heap → Rs) : ∀ (n low high fuel : Nat) (H : Heap), high - low ≤ n → n < fuel → low < high → high ≤ 65536 → low * b ≤ R → R < high * b → Frame Hr H →
    ∃ rv' H', slow.loop7 (f31_l3 slow K (runQ wk tab slow K (d + 2)) k12) fuel va w v rv (i64 i) (u64 low) (u64 high) H = k12 va w v rv' (.int .i64 ((i : Int) - 1)) H' ∧ Frame H0 H' ∧ Wr lo H' v r [] (rl (ds.set i (R / b))) [] ∧ IsR H' rv' (R % b) ∧ ¬ inRow rv' r
  | n, low, high, fuel, H, hn, hf, hlh, hh, h1, h2, hfr => by
    obtain ⟨fuel, rfl⟩ : ∃ m, fuel = m + 1 := ⟨fuel - 1, by omega⟩
    rw [z_loop7]
    have hf0 : Frame H0 H := Frame.trans hfr0 hfr
    by_cases hg : high - low > 1
    · have hgi : ((high - low : Nat) : Int) > 1 := by omega
      obtain ⟨mv, H1, e1, f1, m1⟩ := rof_ok K (by omega) (d + 1) H (n := (low + high) / 2) (by omega)
      have hml : (rdigs ((low + high) / 2)).length ≤ 4 := rdigs_len64 (by omega)
      obtain ⟨pv, H2, e2, f2, p2⟩ := rmul01_ok K d H1 m1 (hw.fr (Frame.trans hf0 f1)) (by omega) (by omega) (by omega)
      have f12 := Frame.trans f1 f2
      have hrH := hrv.fr (Frame.trans hfr f12)
      have hpl : (rdigs ((low + high) / 2 * b)).length ≤ (rdigs ((low + high) / 2)).length + (rdigs b).length := rdigs_len_le (by
        rw [Nat.pow_add]
        exact Nat.mul_lt_mul'' (rdigs_lt _) (rdigs_lt _))
      have e3 := rcmp_ok K (d + 1) H2 p2 hrH (by omega) (by omega)
      by_cases hle : (low + high) / 2 * b ≤ R
      · have hcm : cmpN ((low + high) / 2 * b) R ≤ 0 := by unfold cmpN; split; omega; split; omega; omega
        obtain ⟨rv', H', g1, g2, g3, g4⟩ := rdiv_in K d lo hlo hw hbl hK hrv hfr0 hwr hi hi9 hRl hb hnr k12 (n - 1) ((low + high) / 2) high fuel H2 (by omega) (by omega) (by omega) hh hle h2 (Frame.trans hfr f12)
        refine ⟨rv', H', ?_, g2, g3, g4⟩
        simp only [f31_l3]
        rw [n_sub64 _ (by omega) (by omega), z_gtr, decide_eq_true hgi, z_cond, cond_true, n_add64 _ (by omega), show (SV.int .u64 2) = u64 2 from rfl, n_quo64 _ _ (by decide) (by omega), e1, z_call, e2, z_call, e3, z_call, z_leq, decide_eq_true hcm, z_cond, cond_true]
        exact g1
      · have hcm : ¬ cmpN ((low + high) / 2 * b) R ≤ 0 := by unfold cmpN; rw [if_neg (by omega), if_pos (by omega)]; omega
        obtain ⟨rv', H', g1, g2, g3, g4⟩ := rdiv_in K d lo hlo hw hbl hK hrv hfr0 hwr hi hi9 hRl hb hnr k12 (n - 1) low ((low + high) / 2) fuel H2 (by omega) (by omega) (by omega) (by omega) h1 (by omega) (Frame.trans hfr f12)
        refine ⟨rv', H', ?_, g2, g3, g4⟩
        simp only [f31_l3]
        rw [n_sub64 _ (by omega) (by omega), z_gtr, decide_eq_true hgi, z_cond, cond_true, n_add64 _ (by omega), show (SV.int .u64 2) = u64 2 from rfl, n_quo64 _ _ (by decide) (by omega), e1, z_call, e2, z_call, e3, z_call, z_leq, decide_eq_false hcm, z_cond, cond_false]
        exact g1
    · have hgi : ¬ ((high - low : Nat) : Int) > 1 := by omega
      have hhl : high = low + 1 := by omega
      subst hhl
      have hq : R / b = low := by
        rw [Nat.div_eq_iff hb]
        rw [Nat.succ_mul] at h2
        constructor
        · exact h1
        · omega
      have hwrH := hwr.fr hfr
      have hlm : low % 4294967296 = low := Nat.mod_eq_of_lt (by omega)
      obtain ⟨H1, st, hw1, f1, sz1, hro⟩ := hwrH.store (i := i) (by simpa using hi) (x := u32 low) rfl .i64
      rw [rl_set] at hw1
      have hf1 : Frame H0 H1 := Fr.trans hf0 (by rw [← hlo]; exact f1)
      have hrv1 : IsR H1 rv R := Arr.of_rows (hrv.fr hfr) fun q hq => hro q fun e => hnr (e ▸ hq)
      obtain ⟨mv, H2, e1, f2, m1⟩ := rof_ok K (by omega) (d + 1) H1 (n := low) (by omega)
      have hml : (rdigs low).length ≤ 4 := rdigs_len64 (by omega)
      obtain ⟨pv, H3, e2, f3, p2⟩ := rmul01_ok K d H2 m1 (hw.fr (Frame.trans hf1 f2)) (by omega) (by omega) (by omega)
      have f23 := Frame.trans f2 f3
      obtain ⟨sv, H4, e3, f4, p4, hnew⟩ := rsub_ok K d H3 (hrv1.fr f23) p2 h1 (by omega) (by omega)
      have f24 := Frame.trans f23 f4
      have hmod : R - low * b = R % b := by
        have := Nat.div_add_mod R b
        rw [hq, Nat.mul_comm] at this
        omega
      rw [hmod] at p4
      refine ⟨sv, H4, ?_, Frame.trans hf1 f24, ?_, p4, fun hin => ?_⟩
      · simp only [f31_l3]
        rw [n_sub64 _ (by omega) (by omega), z_gtr, decide_eq_false hgi, z_cond, cond_false, n_conv32, hlm, st, e1, z_call, e2, z_call, e3, z_call, z_sub64 (by omega) (by omega)]
      · rw [hq]; exact hw1.fr f24
      · have h5 := hnew r hin
        have h6 := hw1.lt
        have h7 := f23.size
        omega
/-- Div. -/
theorem rdiv_out (K : Nat) (d : Nat) {H0 : Heap} {va w v : SV} {xs : List Nat} {b : Nat} (ha : Arr H0 va (rl xs)) (hxs : RSmall xs) (hxl : xs.length < 1000000) (hw : IsR H0 w b) (hb : 0 < b) (hbl : (rdigs b).length < 900000) (hK : 3000000 < K) {r : Nat} (hroot : v.flat = true) : ∀ (n fuel : Nat) (H : Heap) (rv : SV) (qs : List Nat), n ≤ xs.length → n < fuel → Frame H0 H → Wr H0.size H v r [] (rl (List.replicate n 0 ++ qs)) [] → RSmall qs → qs.length = xs.length - n → rval qs = rval (xs.drop n) / b → IsR H rv (rval (xs.drop n) % b) → ¬ inRow rv r →
    ∃ qv rv' H', slow.loop5 (f31_l1 slow K (runQ wk tab slow K (d + 3))) fuel va w v rv (.int .i64 ((n : Int) - 1)) H = some (.tuple [qv, rv'], H') ∧ Frame H0 H' ∧ IsR H' qv (rval xs / b) ∧ IsR H' rv' (rval xs % b)
  | 0, fuel, H, rv, qs, hn, hf, hfr, hwr, hqs, hql, hqv, hrv, hnr => by
    obtain ⟨fuel, rfl⟩ : ∃ m, fuel = m + 1 := ⟨fuel - 1, by omega⟩
    rw [z_loop5]
    have h0 : ¬ (((0 : Nat) : Int) - 1 ≥ 0) := by omega
    simp only [List.replicate_zero, List.nil_append] at hwr
    rw [List.drop_zero] at hqv hrv
    obtain ⟨sl, h2, h3, _⟩ := rcut_ok K (d + 2) H (ds := qs) hwr.arr hqs (by omega) (by omega)
    rw [hqv] at h3
    refine ⟨sl, rv, H, ?_, hfr, h3, hrv⟩
    simp only [f31_l1, z_geq, decide_eq_false h0, z_cond, cond_false, h2, z_call, z_rest h3.good, z_rest hrv.good]
  | n + 1, fuel, H, rv, qs, hn, hf, hfr, hwr, hqs, hql, hqv, hrv, hnr => by
    obtain ⟨fuel, rfl⟩ : ∃ m, fuel = m + 1 := ⟨fuel - 1, by omega⟩
    rw [z_loop5]
    have h0 : ((n + 1 : Nat) : Int) - 1 ≥ 0 := by omega
    have e : (((n + 1 : Nat) : Int) - 1) = (n : Int) := by omega
    obtain ⟨x, hx⟩ : ∃ x, xs[n]? = some x := ⟨_, List.getElem?_eq_getElem (by omega)⟩
    have hxD : x < 65536 := hxs x (List.mem_of_getElem? hx)
    have hdx : xs.drop n = x :: xs.drop (n + 1) := List.drop_eq_getElem?_toList_append (l := xs) (i := n) ▸ by rw [hx]; rfl
    generalize hT : rval (xs.drop (n + 1)) = T at *
    obtain ⟨u, H1, hu, hou, hfu, _, _⟩ := z_lay1 (H := H) (lo := H.size) (Nat.le_refl _) (.int .u32 0) (x := u32 x) rfl
    have hrl : (rdigs (T % b)).length ≤ (rdigs b).length := rdigs_mono (Nat.le_of_lt (Nat.mod_lt _ hb))
    obtain ⟨u', H2, ha2, ho2, f2, hro2, hin2, _⟩ := hou.append hfu.size (hrv.fr hfu) (by_ := 4) (roomy_small (by simp; omega))
    have e1 : [u32 x] ++ rl (rdigs (T % b)) = rl (x :: rdigs (T % b)) := rfl
    rw [e1] at ho2
    have hRe : rval (x :: rdigs (T % b)) = x + D * (T % b) := by simp only [rval, rval_digs]
    have hsm : RSmall (x :: rdigs (T % b)) := fun q hq => by
      rcases List.mem_cons.1 hq with rfl | hq
      · exact hxD
      · exact rdigs_small _ q hq
    obtain ⟨sl, h3, h4, hin⟩ := rcut_ok K (d + 2) H2 (ds := x :: rdigs (T % b)) ho2.arr hsm (by simp; omega) (by simp; omega)
    rw [hRe] at h4
    have f12 : Frame H H2 := Fr.trans hfu f2
    have hrlt := hwr.lt
    have hnr2 : ¬ inRow sl r := fun hi => by
      have := Own.ge ho2 (hin r hi)
      omega
    have hR1 : x + D * (T % b) < 65536 * b := by
      have h5 := Nat.mod_lt T hb
      show x + 65536 * (T % b) < 65536 * b
      have := Nat.mul_le_mul_left 65536 (Nat.succ_le_of_lt h5)
      omega
    have hRlen : (rdigs (x + D * (T % b))).length ≤ (rdigs b).length + 1 := rdigs_len_le (by
      rw [Nat.pow_succ]
      have h6 := rdigs_lt b
      have : 65536 * b ≤ D ^ (rdigs b).length * D := by rw [Nat.mul_comm]; exact Nat.mul_le_mul_right _ (Nat.le_of_lt h6)
      omega)
    obtain ⟨rv', H3, h5, f3, w3, r3, n3⟩ := rdiv_in K (d + 1) H0.size rfl hw (by omega) hK h4 (Frame.trans hfr f12) (hwr.fr f12) (i := n) (by simp; omega) (by omega) (by omega) hb hnr2 (slow.loop5 (f31_l1 slow K (runQ wk tab slow K (d + 3))) fuel) 65536 0 65536 K H2 (by omega) (by omega) (by omega) (by omega) (by omega) hR1 (Fr.refl _ _)
    have hset : (List.replicate (n + 1) 0 ++ qs).set n ((x + D * (T % b)) / b) = List.replicate n 0 ++ ((x + D * (T % b)) / b :: qs) := by
      rw [List.set_append_left _ _ (by simp), List.replicate_succ', List.set_append_right _ _ (by simp)]
      simp
    rw [hset] at w3
    have hTd := Nat.div_add_mod T b
    have hval : rval (xs.drop n) = b * (D * (T / b)) + (x + D * (T % b)) := by
      rw [hdx, rval, hT]
      conv => lhs; rw [← hTd]
      rw [Nat.mul_add, ← Nat.mul_assoc D b, Nat.mul_comm D b, Nat.mul_assoc b D]
      omega
    obtain ⟨qv, rv2, H4, h7, f7, q7, r7⟩ := rdiv_out K d ha hxs hxl hw hb hbl hK hroot n fuel H3 rv' ((x + D * (T % b)) / b :: qs) (by omega) (by omega) f3 w3 (fun q hq => by
      rcases List.mem_cons.1 hq with rfl | hq
      · rw [Nat.div_lt_iff_lt_mul hb]; exact hR1
      · exact hqs q hq) (by simp [hql]; omega) (by
      rw [hval, rval, hqv, Nat.mul_add_div hb]; omega) (by rw [hval, Nat.mul_add_mod]; exact r3) n3
    refine ⟨qv, rv2, H4, ?_, f7, q7, r7⟩
    simp only [f31_l1, z_geq, decide_eq_true h0, z_cond, cond_true]
    rw [e, (ha.fr hfr).load (rl_get hx), hu, ha2, h3, z_call, show (SV.int .u64 0) = u64 0 from rfl, show (SV.int .u64 65536) = u64 65536 from rfl, h5]
    exact h7
theorem rdiv_ok (K : Nat) (d : Nat) (H : Heap) {v w : SV} {a b : Nat} (hx : IsR H v a) (hy : IsR H w b) (hb : 0 < b) (hla : (rdigs a).length < 900000) (hlb : (rdigs b).length < 900000) (hK : 3000000 < K) :
    ∃ q r H', runQ wk tab slow K (d + 4) 31 [v, w] H = some (.tuple [q, r], H') ∧ Frame H H' ∧ IsR H' q (a / b) ∧ IsR H' r (a % b) := by
  show ∃ q r H', f31 slow K (runQ wk tab slow K (d + 3)) v w H = _ ∧ _
  simp only [f31, rlen hx]
  obtain ⟨u, H1, h1, w1, f1, ru, uf, _⟩ := z_makeW (H := H) (lo := H.size) (Nat.le_refl _) 4 (.int .u32 0) (rdigs a).length (by omega) (roomy_small (by omega)) .i64 .i64
  rw [rl_zeros] at w1
  rw [h1, z_sub64 (by omega) (by omega)]
  have := rdiv_out K d hx (rdigs_small a) (by omega) hy hb hlb hK uf (rdigs a).length K H1 (.slice nilSl) [] (Nat.le_refl _) (by omega) f1 (by simpa using w1) (fun q hq => by cases hq) (by simp) (by rw [List.drop_length]; simp [rval]) (by rw [List.drop_length]; simp only [rval, Nat.zero_mod]; exact IsR.zero (Arr.nil _)) (not_inRow_nil _)
  rw [rval_digs] at this
  exact this
end Go.Sh.Of

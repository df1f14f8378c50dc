/- Knuth's division: plain words. Contracts of the package nat: up, down. Contracts of the package nat: away; windows of a row. Contracts of the package nat: long, Div. Contracts of the package nat: long, Div. Contracts: nat.long, nat.Div; zint.Sub, Quo, Exact. Contracts of the package zint: Sub, Quo, Exact. -/
import Derived.Test.YtcecdmacoklhpaaNatA
import Derived.Test.YtcecdmacoklhpaaZintA
set_option linter.unusedVariables false
set_option linter.unusedSimpArgs false
namespace Go.Sh.Of
open Go

/-- What a step divides: P = (x B + u2) W + ur, by V = (v1 B + v2) W + vr. -/
structure Est (x u2 ur v1 v2 vr W P V q : Nat) : Prop where
  hP : P = (x * B + u2) * W + ur
  hV : V = (v1 * B + v2) * W + vr
  ur : ur < W
  vr : vr < W
  u2 : u2 < B
  v2 : v2 < B
  v1 : 0 < v1
  le : q * V ≤ P
  lt : P < (q + 1) * V
  qB : q < B
theorem est_start {x u2 ur v1 v2 vr W P V q : Nat} (h : Est x u2 ur v1 v2 vr W P V q) : q ≤ x / v1 := by
  rw [Nat.le_div_iff_mul_le h.v1]
  refine Decidable.byContradiction fun hn => ?_
  have h1 : x + 1 ≤ q * v1 := by omega
  have h2 := h.le
  rw [h.hP, h.hV] at h2
  have h3 : (x + 1) * (B * W) ≤ q * v1 * (B * W) := Nat.mul_le_mul_right _ h1
  have h4 : (u2 + 1) * W ≤ B * W := Nat.mul_le_mul_right _ h.u2
  have h5 := h.ur
  simp only [Nat.add_mul, Nat.mul_add, Nat.mul_assoc, Nat.one_mul] at h2 h3 h4
  generalize q * (v2 * W) = a at *
  generalize q * vr = b at *
  generalize q * (v1 * (B * W)) = c at *
  generalize x * (B * W) = e at *
  generalize u2 * W = g at *
  generalize B * W = z at *
  omega
theorem est_over {x u2 ur v1 v2 vr W P V q d r : Nat} (h : Est x u2 ur v1 v2 vr W P V q) (hx : d * v1 + r = x) (hd : r * B + u2 < d * v2) : q < d := by
  refine Decidable.byContradiction fun hn => ?_
  have h0 : d ≤ q := by omega
  have h2 : d * V ≤ P := Nat.le_trans (Nat.mul_le_mul_right _ h0) h.le
  rw [h.hP, h.hV, ← hx] at h2
  have h3 : (r * B + u2 + 1) * W ≤ d * v2 * W := Nat.mul_le_mul_right _ hd
  have h5 := h.ur
  simp only [Nat.add_mul, Nat.mul_add, Nat.mul_assoc, Nat.one_mul] at h2 h3
  generalize d * (v1 * (B * W)) = a at *
  generalize d * (v2 * W) = b at *
  generalize d * vr = c at *
  generalize r * (B * W) = e at *
  generalize u2 * W = g at *
  omega
theorem est_end {x u2 ur v1 v2 vr W P V q d r : Nat} (h : Est x u2 ur v1 v2 vr W P V q) (hx : d * v1 + r = x) (hd : d < B) (ht : d * v2 ≤ r * B + u2) : d ≤ q + 1 := by
  refine Decidable.byContradiction fun hn => ?_
  have h0 : q + 1 + 1 ≤ d := by omega
  have h1 : (q + 1 + 1) * V ≤ d * V := Nat.mul_le_mul_right _ h0
  have h2 : d * V < P + V := by
    have h3 : d * v2 * W ≤ (r * B + u2) * W := Nat.mul_le_mul_right _ ht
    have h4 : d * vr ≤ B * vr := Nat.mul_le_mul_right _ (Nat.le_of_lt hd)
    have h5 : B * vr < B * W := Nat.mul_lt_mul_of_pos_left h.vr (by decide)
    have h6 : 1 * (B * W) ≤ v1 * (B * W) := Nat.mul_le_mul_right _ h.v1
    rw [h.hP, ← hx]
    have h7 : V = v1 * (B * W) + v2 * W + vr := by rw [h.hV, Nat.add_mul, Nat.mul_assoc]
    have h8 : d * V = d * (v1 * (B * W)) + d * (v2 * W) + d * vr := by rw [h7, Nat.mul_add, Nat.mul_add]
    rw [h8, h7]
    simp only [Nat.add_mul, Nat.mul_add, Nat.mul_assoc, Nat.one_mul] at h3 h6 ⊢
    generalize d * (v1 * (B * W)) = a at *
    generalize d * (v2 * W) = b at *
    generalize d * vr = c at *
    generalize r * (B * W) = e at *
    generalize u2 * W = g at *
    generalize v1 * (B * W) = k at *
    generalize B * W = z at *
    generalize B * vr = y at *
    omega
  have h3 := h.lt
  rw [Nat.add_mul _ 1, Nat.one_mul] at h1
  generalize (q + 1) * V = a at *
  generalize d * V = b at *
  omega
/-- Where the rest is no digit any more, the test would pass. -/
theorem est_break {x v1 v2 u2 d r u0 u1 : Nat} (hx : d * v1 + r = x) (hx2 : x = u0 * B + u1) (hu1 : u1 < B) (hu0 : u0 ≤ v1) (hv1 : 0 < v1) (hv2 : v2 < B) (hr : B ≤ r) : d < B ∧ d * v2 ≤ r * B + u2 := by
  have h1 : u0 * B ≤ v1 * B := Nat.mul_le_mul_right _ hu0
  have h2 : d * v1 < B * v1 := by
    rw [Nat.mul_comm B v1]
    generalize d * v1 = a at *
    generalize u0 * B = b at *
    generalize v1 * B = c at *
    omega
  have h3 : d < B := Nat.lt_of_mul_lt_mul_right h2
  refine ⟨h3, ?_⟩
  have h4 : d * v2 ≤ B * B := Nat.mul_le_mul (Nat.le_of_lt h3) (Nat.le_of_lt hv2)
  have h5 : B * B ≤ r * B := Nat.mul_le_mul_right _ hr
  generalize d * v2 = a at *
  generalize r * B = b at *
  generalize B * B = c at *
  omega
theorem est_first {x v1 u0 u1 : Nat} (hx2 : x = u0 * B + u1) (hu1 : u1 < B) (hu0 : u0 ≤ v1) (hv1 : B ≤ v1 + v1) : x / v1 < B + 1 + 1 := by
  have h0 : 0 < v1 := by have : 0 < B := by decide
                         omega
  rw [Nat.div_lt_iff_lt_mul h0]
  have h1 : u0 * B ≤ v1 * B := Nat.mul_le_mul_right _ hu0
  rw [hx2, Nat.add_mul, Nat.add_mul, Nat.mul_comm B v1, Nat.one_mul]
  generalize u0 * B = a at *
  generalize v1 * B = b at *
  omega
end Go.Sh.Of
namespace Go.Sh.Of
open Go

theorem B_pos : 0 < B := by decide
theorem val_split {l : List Nat} {i : Nat} (h : i ≤ l.length) : val l = val (l.take i) + B ^ i * val (l.drop i) := by
  have := val_append (l.take i) (l.drop i)
  rw [List.take_append_drop, List.length_take, Nat.min_eq_left h] at this
  exact this
theorem val_drop {l : List Nat} {i x : Nat} (h : l[i]? = some x) : val (l.drop i) = x + B * val (l.drop (i + 1)) := by
  have hdb : l.drop i = x :: l.drop (i + 1) := List.drop_eq_getElem?_toList_append (l := l) (i := i) ▸ by rw [h]; rfl
  rw [hdb]
  rfl
theorem val_take {l : List Nat} {i x : Nat} (h : l[i]? = some x) : val (l.take (i + 1)) = val (l.take i) + B ^ i * x := by
  have hi := (List.getElem?_eq_some_iff.1 h).1
  rw [List.take_add_one, h, val_append, List.length_take, Nat.min_eq_left (by omega)]
  simp [val]
theorem small_take {l : List Nat} (h : Small l) (i : Nat) : Small (l.take i) := fun d hd => h d (List.mem_of_mem_take hd)
theorem small_drop {l : List Nat} (h : Small l) (i : Nat) : Small (l.drop i) := fun d hd => h d (List.mem_of_mem_drop hd)
theorem small_app {a b : List Nat} (ha : Small a) (hb : Small b) : Small (a ++ b) := fun d hd => by
  rcases List.mem_append.1 hd with h | h
  · exact ha d h
  · exact hb d h
theorem small_one {z : Nat} (h : z < B) : Small [z] := fun d hd => by rw [List.mem_singleton.1 hd]; exact h
theorem or_shift {n c x : Nat} (h : c < 2 ^ n) : c ||| x * 2 ^ n = x * 2 ^ n + c := by
  rw [← Nat.shiftLeft_eq, Nat.or_comm, Nat.shiftLeft_add_eq_or_of_lt h]
theorem u_inc {a : Nat} (h : a < 1000000) (k : K1) : slow.add (i64 a) (.int .i64 1) k = k (i64 (a + 1)) := n_addi k (b := 1) (by omega)
theorem pow_32 {n : Nat} (h : n ≤ 31) : 2 ^ n ≤ 2147483648 := show 2 ^ n ≤ 2 ^ 31 from Nat.pow_le_pow_right (by decide) h
theorem up_loop (C : CallC) (K : Nat) {H0 : Heap} {w v : SV} {ds : List Nat} (hw : Arr H0 w (limbs ds)) (hds : Small ds) {n m : Nat} (hn : n ≤ 31) (hm : m < 100000) (hdm : ds.length ≤ m) : ∀ (j i fuel : Nat) (c : Nat) (H : Heap) (res : List Nat), i + j = m → j < fuel → c < 2 ^ n → Small res → res.length = i → Frame H0 H → Own H0.size H v (limbs (res ++ List.replicate j 0)) → val res + B ^ i * c = val (ds.take i) * 2 ^ n →
    ∃ H' res' c', slow.loop6 (f72_l1 slow K C) fuel w (i64 n) v (u64 c) (i64 m) (i64 i) H = some (v, H') ∧ Frame H0 H' ∧ Own H0.size H' v (limbs res') ∧ Small res' ∧ res'.length = m ∧ val res' + B ^ m * c' = val ds * 2 ^ n
  | 0, i, fuel, c, H, res, hij, hf, hc, hrs, hrl, hfr, ho, hv => by
    obtain ⟨fuel, rfl⟩ : ∃ q, fuel = q + 1 := ⟨fuel - 1, by omega⟩
    have hlt : ¬ i < m := by omega
    have e : i = m := by omega
    subst e
    rw [List.replicate_zero, List.append_nil] at ho
    rw [List.take_of_length_le hdm] at hv
    refine ⟨H, res, c, ?_, hfr, ho, hrs, hrl, hv⟩
    rw [z_loop6]
    simp only [f72_l1, n_lss, decide_eq_false hlt, z_cond, cond_false, z_rest ho.arr.good]
  | j + 1, i, fuel, c, H, res, hij, hf, hc, hrs, hrl, hfr, ho, hv => by
    obtain ⟨fuel, rfl⟩ : ∃ q, fuel = q + 1 := ⟨fuel - 1, by omega⟩
    have hlt : i < m := by omega
    have h31 := pow_32 hn
    -- a step with the sum y
    have step : ∀ y, y < B * 2 ^ n → val res + B ^ i * y = val (ds.take (i + 1)) * 2 ^ n → ∃ H' res' c', f72_j3 slow K C (slow.loop6 (f72_l1 slow K C) fuel) w (i64 n) v (u64 y) (i64 i) (i64 m) (i64 i) H = some (v, H') ∧ Frame H0 H' ∧ Own H0.size H' v (limbs res') ∧ Small res' ∧ res'.length = m ∧ val res' + B ^ m * c' = val ds * 2 ^ n := fun y hy hval => by
      obtain ⟨H1, st, o1, g1, _, _⟩ := ho.store (i := i) (by simp; omega) (x := u32 (y % B)) rfl .i64
      rw [limbs_set, List.replicate_succ, set_app_mid _ _ _ _ hrl] at o1
      have hyB : y % B < B := Nat.mod_lt _ B_pos
      have hyD : y / B < 2 ^ n := Nat.div_lt_of_lt_mul hy
      obtain ⟨H2, res', c', h2, g2⟩ := up_loop C K hw hds hn hm hdm j (i + 1) fuel (y / B) H1 (res ++ [y % B]) (by omega) (by omega) hyD (small_app hrs (small_one hyB)) (by simp [hrl]) (Fr.trans hfr g1) o1 (by
        rw [val_append, hrl]
        simp only [val, Nat.mul_zero, Nat.add_zero]
        rw [← hval, Nat.pow_succ, Nat.mul_assoc, Nat.add_assoc, ← Nat.mul_add, Nat.mod_add_div])
      refine ⟨H2, res', c', ?_, g2⟩
      have e1 : y % 4294967296 = y % B := rfl
      have e2 : ∀ k, slow.shr (u64 y) (.int .u64 32) k = k (u64 (y / B)) := fun k => n_shr k .u64 .u64 y 32 (by decide)
      simp only [f72_j3, n_conv32, e1, st, e2, u_inc (show i < 1000000 by omega)]
      exact h2
    rw [z_loop6]
    by_cases hib : i < ds.length
    · obtain ⟨x, hx⟩ : ∃ x, ds[i]? = some x := ⟨_, List.getElem?_eq_getElem hib⟩
      have hxB : x < 4294967296 := hds x (List.mem_of_getElem? hx)
      have hb1 : x * 2 ^ n ≤ 4294967295 * 2147483648 := Nat.mul_le_mul (by omega) h31
      have hb2 : x * 2 ^ n < 18446744073709551616 := by omega
      have hb3 : x * 2 ^ n + c < B * 2 ^ n := by
        have : (x + 1) * 2 ^ n ≤ B * 2 ^ n := Nat.mul_le_mul_right _ hxB
        rw [Nat.add_mul, Nat.one_mul] at this
        generalize x * 2 ^ n = a at *
        generalize B * 2 ^ n = b at *
        generalize 2 ^ n = p at *
        omega
      obtain ⟨H', res', c', h1, g1⟩ := step (x * 2 ^ n + c) hb3 (by
        rw [val_take hx, Nat.add_mul, ← hv, Nat.mul_add, Nat.mul_assoc]
        generalize B ^ i * (x * 2 ^ n) = a
        generalize B ^ i * c = b
        omega)
      refine ⟨H', res', c', ?_, g1⟩
      have e3 : ∀ k, slow.shl (u64 x) (i64 n) k = k (u64 (x * 2 ^ n)) := fun k => n_shl64 k .i64 x n (by omega) hb2
      have e4 : ∀ k, slow.or (u64 c) (u64 (x * 2 ^ n)) k = k (u64 (x * 2 ^ n + c)) := fun k => by rw [n_or64 _ (by omega) hb2, or_shift hc]
      simp only [f72_l1, n_lss, decide_eq_true hlt, z_cond, cond_true, blen (hw.fr hfr), decide_eq_true hib, (hw.fr hfr).load (limbs_get hx), n_conv64 _ .u32 x (by omega), e3, e4]
      exact h1
    · have e5 : ds.take (i + 1) = ds.take i := by rw [List.take_of_length_le (by omega), List.take_of_length_le (by omega)]
      have hcB : c < B * 2 ^ n := by
        have : 1 * 2 ^ n ≤ B * 2 ^ n := Nat.mul_le_mul_right _ B_pos
        omega
      obtain ⟨H', res', c', h1, g1⟩ := step c hcB (by rw [e5]; exact hv)
      refine ⟨H', res', c', ?_, g1⟩
      simp only [f72_l1, n_lss, decide_eq_true hlt, z_cond, cond_true, blen (hw.fr hfr), decide_eq_false hib, cond_false]
      exact h1
theorem up_ok (K : Nat) (hK : 100000 < K) (d : Nat) (H : Heap) {w : SV} {ds : List Nat} (hw : Arr H w (limbs ds)) (hds : Small ds) {n m : Nat} (hn : n ≤ 31) (hm : m < 100000) (hdm : ds.length ≤ m) (hlt : val ds * 2 ^ n < B ^ m) :
    ∃ v H' res, runQ wk tab slow K (d + 1) 72 [w, i64 n, i64 m] H = some (v, H') ∧ Frame H H' ∧ Own H.size H' v (limbs res) ∧ Small res ∧ res.length = m ∧ val res = val ds * 2 ^ n := by
  show ∃ v H' res, f72 slow K (runQ wk tab slow K d) w (i64 n) (i64 m) H = _ ∧ _
  obtain ⟨v, H1, h1, o1, g1, _, _⟩ := z_make (H := H) (lo := H.size) (Nat.le_refl _) 4 (.int .u32 0) m (by omega) (roomy_small (by omega)) .i64 .i64
  rw [limbs_zeros] at o1
  obtain ⟨H2, res, c, h2, g2, o2, s2, l2, v2⟩ := up_loop (runQ wk tab slow K d) K hw hds hn hm hdm m 0 K 0 H1 [] (by omega) (by omega) (Nat.pow_pos (by decide)) (fun d hd => by cases hd) rfl g1 (by simpa using o1) (by simp [val])
  have hlen : ∀ k, slow.len v k = k (i64 m) := fun k => by rw [blen o1.arr, List.length_replicate]
  refine ⟨v, H2, res, ?_, g2, o2, s2, l2, ?_⟩
  · simp only [f72, h1, hlen]
    exact h2
  · have hc : c = 0 := by
      rcases Nat.eq_zero_or_pos c with h | h
      · exact h
      · have : B ^ m * 1 ≤ B ^ m * c := Nat.mul_le_mul_left _ h
        omega
    rw [hc] at v2
    simpa using v2
/-! ### down -/
theorem mod_step (N i : Nat) : N % B ^ i + B ^ i * (N / B ^ i % B) = N % B ^ (i + 1) := by
  rw [Nat.pow_succ, Nat.mod_mul]
theorem down_digit {D n i x y r : Nat} (hn : n ≤ 31) (h : D / B ^ i = x + B * (y + B * r)) : (x + B * y) / 2 ^ n % B = D / 2 ^ n / B ^ i % B := by
  rw [Nat.div_div_eq_div_mul, Nat.mul_comm (2 ^ n), ← Nat.div_div_eq_div_mul, h]
  have e : B = 2 ^ n * 2 ^ (32 - n) := by
    rw [← Nat.pow_add, show n + (32 - n) = 32 by omega]
    rfl
  have e2 : x + B * (y + B * r) = (x + B * y) + 2 ^ n * (B * (2 ^ (32 - n) * r)) := by
    rw [Nat.mul_add, ← Nat.add_assoc]
    congr 1
    calc B * (B * r) = (2 ^ n * 2 ^ (32 - n)) * (B * r) := by rw [← e]
      _ = 2 ^ n * (B * (2 ^ (32 - n) * r)) := by
        rw [Nat.mul_assoc, Nat.mul_left_comm (2 ^ (32 - n)) B r]
  rw [e2, Nat.add_mul_div_left _ _ (Nat.pow_pos (by decide)), Nat.add_mul_mod_self_left]
theorem val_div {l : List Nat} (h : Small l) {i : Nat} (hi : i ≤ l.length) : val l / B ^ i = val (l.drop i) := by
  have h1 := val_lt (small_take h i)
  rw [List.length_take, Nat.min_eq_left hi] at h1
  rw [val_split hi, Nat.add_mul_div_left _ _ (Nat.pow_pos B_pos), Nat.div_eq_of_lt h1, Nat.zero_add]
theorem down_loop (K : Nat) (d : Nat) {H0 : Heap} {w v : SV} {ds : List Nat} (hw : Arr H0 w (limbs ds)) (hds : Small ds) {n m : Nat} (hn : n ≤ 31) (hm : m < 100000) (hK : 100000 < K) (hdm : ds.length = m) (hroot : Root v) : ∀ (j i fuel : Nat) (H : Heap) (res : List Nat), i + j = m → j < fuel → Small res → res.length = i → Frame H0 H → Own H0.size H v (limbs (res ++ List.replicate j 0)) → val res = val ds / 2 ^ n % B ^ i →
    ∃ q H', slow.loop6 (f74_l1 slow K (runQ wk tab slow K (d + 1))) fuel w (i64 n) (.box [.slice nilSl]) v (i64 m) (i64 i) H = some (q, H') ∧ Frame H0 H' ∧ IsNat H' q (val ds / 2 ^ n)
  | 0, i, fuel, H, res, hij, hf, hrs, hrl, hfr, ho, hv => by
    obtain ⟨fuel, rfl⟩ : ∃ q, fuel = q + 1 := ⟨fuel - 1, by omega⟩
    have hlt : ¬ i < m := by omega
    have e : i = m := by omega
    subst e
    rw [List.replicate_zero, List.append_nil] at ho
    obtain ⟨sl, h1, cu⟩ := cut_ok K d H ho.arr hrs hroot (by omega) (by omega)
    have hq := cu.isNat
    have hD : val ds / 2 ^ n < B ^ i := Nat.lt_of_le_of_lt (Nat.div_le_self _ _) (by rw [← hdm]; exact val_lt hds)
    rw [hv, Nat.mod_eq_of_lt hD] at hq
    refine ⟨.agg [sl], H, ?_, hfr, hq⟩
    rw [z_loop6]
    simp only [f74_l1, n_lss, decide_eq_false hlt, z_cond, cond_false, h1, z_call, z_bst1, z_resc1]
  | j + 1, i, fuel, H, res, hij, hf, hrs, hrl, hfr, ho, hv => by
    obtain ⟨fuel, rfl⟩ : ∃ q, fuel = q + 1 := ⟨fuel - 1, by omega⟩
    have hlt : i < m := by omega
    obtain ⟨x, hx⟩ : ∃ x, ds[i]? = some x := ⟨_, List.getElem?_eq_getElem (by omega)⟩
    have hxB : x < 4294967296 := hds x (List.mem_of_getElem? hx)
    have hdx := val_drop hx
    -- a step with the two digits X
    have step : ∀ X, X < 18446744073709551616 → X / 2 ^ n % B = val ds / 2 ^ n / B ^ i % B → ∃ q H', f74_j3 slow K (runQ wk tab slow K (d + 1)) (slow.loop6 (f74_l1 slow K (runQ wk tab slow K (d + 1))) fuel) w (i64 n) (.box [.slice nilSl]) v (i64 i) (u64 X) (i64 m) (i64 i) H = some (q, H') ∧ Frame H0 H' ∧ IsNat H' q (val ds / 2 ^ n) := fun X hX hd => by
      obtain ⟨H1, st, o1, g1, _, _⟩ := ho.store (i := i) (by simp; omega) (x := u32 (X / 2 ^ n % B)) rfl .i64
      rw [limbs_set, List.replicate_succ, set_app_mid _ _ _ _ hrl] at o1
      have hyB : X / 2 ^ n % B < B := Nat.mod_lt _ B_pos
      obtain ⟨q, H2, h2, g2⟩ := down_loop K d hw hds hn hm hK hdm hroot j (i + 1) fuel H1 (res ++ [X / 2 ^ n % B]) (by omega) (by omega) (small_app hrs (small_one hyB)) (by simp [hrl]) (Fr.trans hfr g1) o1 (by
        rw [val_append, hrl]
        simp only [val, Nat.mul_zero, Nat.add_zero]
        rw [hv, hd, mod_step])
      refine ⟨q, H2, ?_, g2⟩
      have e1 : X / 2 ^ n % 4294967296 = X / 2 ^ n % B := rfl
      have e2 : ∀ k, slow.shr (u64 X) (i64 n) k = k (u64 (X / 2 ^ n)) := fun k => n_shr k .u64 .i64 X n (by show n ≤ 64; omega)
      simp only [f74_j3, e2, n_conv32, e1, st, u_inc (show i < 1000000 by omega)]
      exact h2
    rw [z_loop6]
    by_cases hib : i + 1 < m
    · obtain ⟨y, hy⟩ : ∃ y, ds[i + 1]? = some y := ⟨_, List.getElem?_eq_getElem (by omega)⟩
      have hyB : y < 4294967296 := hds y (List.mem_of_getElem? hy)
      have hdy := val_drop hy
      rw [hdy] at hdx
      obtain ⟨q, H', h1, g1⟩ := step (x + B * y) (by
        show x + 4294967296 * y < _
        omega) (down_digit hn (r := val (ds.drop (i + 1 + 1))) (by rw [val_div hds (by omega), hdx]))
      refine ⟨q, H', ?_, g1⟩
      have e3 : ∀ k, slow.shl (u64 y) (.int .u64 32) k = k (u64 (y * 4294967296)) := fun k => n_shl64 k .u64 y 32 (by decide) (by
        show y * 4294967296 < _
        omega)
      have e4 : ∀ k, slow.or (u64 x) (u64 (y * 4294967296)) k = k (u64 (x + B * y)) := fun k => by
        rw [n_or64 _ (by omega) (by omega), Nat.or_comm, or_add _ _ hxB, Nat.add_comm, Nat.mul_comm]
        rfl
      simp only [f74_l1, n_lss, decide_eq_true hlt, z_cond, cond_true, blen (hw.fr hfr), hdm, (hw.fr hfr).load (limbs_get hx), n_conv64 _ .u32 x (by omega), u_inc (show i < 1000000 by omega), decide_eq_true hib, (hw.fr hfr).load (limbs_get hy), n_conv64 _ .u32 y (by omega), e3, e4]
      exact h1
    · have hd0 : ds.drop (i + 1) = [] := List.drop_eq_nil_iff.2 (by omega)
      rw [hd0] at hdx
      obtain ⟨q, H', h1, g1⟩ := step x (by omega) (by
        have := down_digit (D := val ds) (i := i) (x := x) (y := 0) (r := 0) hn (by rw [val_div hds (by omega), hdx]; rfl)
        simpa using this)
      refine ⟨q, H', ?_, g1⟩
      simp only [f74_l1, n_lss, decide_eq_true hlt, z_cond, cond_true, blen (hw.fr hfr), hdm, (hw.fr hfr).load (limbs_get hx), n_conv64 _ .u32 x (by omega), u_inc (show i < 1000000 by omega), decide_eq_false hib, cond_false]
      exact h1
theorem down_ok (K : Nat) (hK : 100000 < K) (d : Nat) (H : Heap) {w : SV} {ds : List Nat} (hw : Arr H w (limbs ds)) (hds : Small ds) {n : Nat} (hn : n ≤ 31) (hm : ds.length < 100000) :
    ∃ q H', runQ wk tab slow K (d + 2) 74 [w, i64 n] H = some (q, H') ∧ Frame H H' ∧ IsNat H' q (val ds / 2 ^ n) := by
  show ∃ q H', f74 slow K (runQ wk tab slow K (d + 1)) w (i64 n) H = _ ∧ _
  obtain ⟨v, H1, h1, o1, g1, _, _⟩ := z_make (H := H) (lo := H.size) (Nat.le_refl _) 4 (.int .u32 0) ds.length (by omega) (roomy_small (by omega)) .i64 .i64
  rw [limbs_zeros] at o1
  obtain ⟨q, H2, h2, g2⟩ := down_loop K d hw hds hn hm hK rfl o1.root ds.length 0 K H1 [] (by omega) (by omega) (fun d hd => by cases hd) rfl g1 (by simpa using o1) (by simp [val, Nat.mod_one])
  refine ⟨q, H2, ?_, g2⟩
  simp only [f74, blen hw, h1, blen (hw.fr g1)]
  exact h2
end Go.Sh.Of
namespace Go.Sh.Of
open Go

/-- v[j:j+k:j+k], of one's own row. -/
theorem Wr.window {lo : Nat} {H : Heap} {v : SV} {r : Nat} {cs : List SV} (h : Wr lo H v r [] cs []) {j k : Nat} (hj : j + k ≤ cs.length) (hk : 0 < k) :
    ∃ p, (∀ kk, slow.slice111 1 v (i64 j) (i64 (j + k)) (i64 (j + k)) H kk = kk p) ∧ Wr lo H p r (cs.take j) ((cs.drop j).take k) (cs.drop (j + k)) ∧ ∀ H' ds, Wr lo H' p r (cs.take j) ds (cs.drop (j + k)) → ds.length = k → Wr lo H' v r [] (cs.take j ++ ds ++ cs.drop (j + k)) [] := by
  obtain ⟨cap, alt, ver, rfl, h1, h2⟩ := h
  simp only [List.nil_append, List.append_nil] at h2
  have hfit : fitsCap H 1 ⟨some (r, 0), cs.length, cap, alt⟩ ((j + k : Nat) : Int) = true := by
    unfold fitsCap
    rw [decide_eq_true (by show ((j + k : Nat) : Int) ≤ (cs.length : Int); omega)]
    rfl
  have hcut : cs.take j ++ ((cs.drop j).take k ++ cs.drop (j + k)) = cs := by
    rw [← List.drop_drop, List.take_append_drop, List.take_append_drop]
  have hop : ∀ kk, slow.slice111 1 (.slice ⟨some (r, ([] : List SV).length), cs.length, cap, alt⟩) (i64 j) (i64 (j + k)) (i64 (j + k)) H kk = kk (.slice (subSl 1 ⟨some (r, 0), cs.length, cap, alt⟩ j k (some k))) := fun kk => by
    show (opR (.slice 1 true true true) [.slice _, i64 j, i64 (j + k), i64 (j + k)] H).bind kk = _
    simp only [opR, sliceOp, loOf]
    rw [if_pos ⟨by omega, by omega, by omega, hfit, .inl (by omega)⟩, Option.bind_some]
    have e1 : (((j + k : Nat) : Int) - (j : Int)).toNat = k := by omega
    rw [e1, Int.toNat_natCast]
    rfl
  refine ⟨_, hop, ?_, fun H' ds hd hl => ?_⟩
  · have hlen : ((cs.drop j).take k).length = k := by simp; omega
    cases j with
    | zero => exact ⟨some k, alt, ver, by rw [hlen]; rfl, h1, by rw [hcut]; exact h2⟩
    | succ j =>
      refine ⟨some k, 0, ver, ?_, h1, by rw [hcut]; exact h2⟩
      rw [hlen, List.length_take, Nat.min_eq_left (by omega)]
      simp [subSl]
  · obtain ⟨cap', alt', ver', _, g1, g2⟩ := hd
    refine ⟨cap, alt, ver', ?_, g1, ?_⟩
    · have : (cs.take j ++ ds ++ cs.drop (j + k)).length = cs.length := by simp; omega
      rw [this]
    · rw [g2, List.nil_append, List.append_nil, List.append_assoc]
theorem away_loop (K : Nat) (d : Nat) (lo : Nat) {H0 : Heap} {p w : SV} {ps vs : List Nat} (hw : Arr H0 w (limbs vs)) (hlo : lo = H0.size) (hvs : Small vs) (hps : Small ps) {m dd : Nat} (hm : m < 100000) (hpm : ps.length = m) (hvm : vs.length < m) (hdd : dd < B) {r : Nat} {pre post : List SV} {Hs : Heap} : ∀ (j i fuel : Nat) (c bw : Nat) (H : Heap) (res : List Nat), i + j = m → j < fuel → c < B → bw ≤ 1 → (vs.length < i → c = 0) → Small res → res.length = i → Frame H0 H → H.size = Hs.size → (∀ r', r' ≠ r → H.get r' = Hs.get r') → Wr lo H p r pre (limbs (res ++ ps.drop i)) post → val res + dd * val (vs.take i) = val (ps.take i) + B ^ i * (c + bw) →
    ∃ H' res' bw', slow.loop7 (f73_l1 slow K (runQ wk tab slow K (d + 1))) fuel p w (u32 dd) (u64 c) (u32 bw) (i64 m) (i64 i) H = some (.bool (decide (bw' ≠ 0)), H') ∧ Frame H0 H' ∧ H'.size = Hs.size ∧ (∀ r', r' ≠ r → H'.get r' = Hs.get r') ∧ Wr lo H' p r pre (limbs res') post ∧ Small res' ∧ res'.length = m ∧ bw' ≤ 1 ∧ val res' + dd * val vs = val ps + B ^ m * bw'
  | 0, i, fuel, c, bw, H, res, hij, hf, hc, hbw, hc0, hrs, hrl, hfr, hsz, hkeep, hwr, hv => by
    obtain ⟨fuel, rfl⟩ : ∃ q, fuel = q + 1 := ⟨fuel - 1, by omega⟩
    have e : i = m := by omega
    subst e
    have hlt : ¬ i < i := Nat.lt_irrefl i
    rw [hc0 hvm, Nat.zero_add, List.take_of_length_le (by omega), List.take_of_length_le (by omega)] at hv
    rw [List.drop_eq_nil_iff.2 (by omega), List.append_nil] at hwr
    refine ⟨H, res, bw, ?_, hfr, hsz, hkeep, hwr, hrs, hrl, hbw, hv⟩
    rw [z_loop7]
    simp only [f73_l1, n_lss, decide_eq_false hlt, z_cond, cond_false]
    rw [show (SV.int .u32 0) = u32 0 from rfl, n_neq, z_rest_bool]
  | j + 1, i, fuel, c, bw, H, res, hij, hf, hc, hbw, hc0, hrs, hrl, hfr, hsz, hkeep, hwr, hv => by
    obtain ⟨fuel, rfl⟩ : ∃ q, fuel = q + 1 := ⟨fuel - 1, by omega⟩
    have hlt : i < m := by omega
    obtain ⟨x, hx⟩ : ∃ x, ps[i]? = some x := ⟨_, List.getElem?_eq_getElem (by omega)⟩
    have hxB : x < 4294967296 := hps x (List.mem_of_getElem? hx)
    have hdx : ps.drop i = x :: ps.drop (i + 1) := List.drop_eq_getElem?_toList_append (l := ps) (i := i) ▸ by rw [hx]; rfl
    have hget : (limbs (res ++ ps.drop i))[i]? = some (u32 x) := limbs_get (by rw [hdx]; exact get_app_mid _ _ _ hrl)
    -- a step with the sum y
    have step : ∀ y, y < 18446744073709551616 → (vs.length < i + 1 → y / B = 0) → val res + dd * val (vs.take (i + 1)) = val (ps.take i) + B ^ i * (y + bw) → ∃ H' res' bw', f73_j3 slow K (runQ wk tab slow K (d + 1)) (slow.loop7 (f73_l1 slow K (runQ wk tab slow K (d + 1))) fuel) p w (u32 dd) (u64 y) (u32 bw) (i64 i) (i64 m) (i64 i) H = some (.bool (decide (bw' ≠ 0)), H') ∧ Frame H0 H' ∧ H'.size = Hs.size ∧ (∀ r', r' ≠ r → H'.get r' = Hs.get r') ∧ Wr lo H' p r pre (limbs res') post ∧ Small res' ∧ res'.length = m ∧ bw' ≤ 1 ∧ val res' + dd * val vs = val ps + B ^ m * bw' := fun y hy hy0 hval => by
      have hyB : y % B < 4294967296 := Nat.mod_lt _ B_pos
      have hyD : y / B < B := Nat.div_lt_of_lt_mul hy
      obtain ⟨z, b', hzz, hcc, hz, hb', hbor⟩ := borrow_eq hxB hyB hbw
      obtain ⟨H1, st, w1, g1, sz1, rr1⟩ := hwr.store (i := i) (by rw [hdx]; simp; omega) (x := u32 z) rfl .i64
      rw [hdx, limbs_set, set_app_mid _ _ _ _ hrl] at w1
      obtain ⟨H2, res', bw', h2, g2⟩ := away_loop K d lo hw hlo hvs hps hm hpm hvm hdd j (i + 1) fuel (y / B) b' H1 (res ++ [z]) (by omega) (by omega) hyD hb' hy0 (small_app hrs (small_one hz)) (by simp [hrl]) (Fr.trans hfr (by rw [← hlo]; exact g1)) (sz1.trans hsz) (fun r' hr' => (rr1 r' hr').trans (hkeep r' hr')) w1 (by
        rw [val_append, hrl, val_take hx]
        simp only [val, Nat.mul_zero, Nat.add_zero]
        have hym := Nat.mod_add_div y B
        generalize val (vs.take (i + 1)) = a at *
        generalize val (ps.take i) = b at *
        generalize y / B = t at *
        rw [Nat.pow_succ, Nat.mul_assoc]
        generalize B ^ i = P at *
        have e1 : P * (z + y % B + bw) = P * (x + B * b') := by rw [hbor]
        have e2 : P * (y % B + B * t) = P * y := by rw [hym]
        simp only [Nat.mul_add] at hval e1 e2 ⊢
        omega)
      refine ⟨H2, res', bw', ?_, g2⟩
      have e1 : y % 4294967296 = y % B := rfl
      have e2 : ∀ k, slow.shr (u64 y) (.int .u64 32) k = k (u64 (y / B)) := fun k => n_shr k .u64 .u64 y 32 (by decide)
      unfold f73_j3
      rw [hwr.arr.load hget, n_conv32, e1, sub32_ok K d H hxB hyB hbw, hzz, hcc, z_call, z_ext0, z_ext1, st, e2, u_inc (by omega)]
      exact h2
    rw [z_loop7]
    by_cases hib : i < vs.length
    · obtain ⟨y, hy⟩ : ∃ y, vs[i]? = some y := ⟨_, List.getElem?_eq_getElem hib⟩
      have hyB : y < 4294967296 := hvs y (List.mem_of_getElem? hy)
      have hdd' : dd < 4294967296 := hdd
      have hc' : c < 4294967296 := hc
      have hb : y * dd ≤ 4294967295 * 4294967295 := Nat.mul_le_mul (by omega) (by omega)
      obtain ⟨H', res', bw', h1, g1⟩ := step (c + y * dd) (by omega) (fun h => by omega) (by
        rw [val_take hy, Nat.mul_add, ← Nat.add_assoc, hv, Nat.mul_left_comm dd, Nat.mul_comm dd y]
        simp only [Nat.mul_add]
        generalize B ^ i * (y * dd) = a at *
        generalize B ^ i * c = b at *
        generalize B ^ i * bw = e at *
        omega)
      refine ⟨H', res', bw', ?_, g1⟩
      simp only [f73_l1, n_lss, decide_eq_true hlt, z_cond, cond_true, blen (hw.fr hfr), decide_eq_true hib, (hw.fr hfr).load (limbs_get hy), n_conv64 _ .u32 y (by omega), n_conv64 _ .u32 dd (by omega)]
      rw [n_mul64 _ (by omega), n_add64 _ (by omega)]
      exact h1
    · have e5 : vs.take (i + 1) = vs.take i := by rw [List.take_of_length_le (by omega), List.take_of_length_le (by omega)]
      have hc' : c < 4294967296 := hc
      obtain ⟨H', res', bw', h1, g1⟩ := step c (by omega) (fun h => Nat.div_eq_of_lt hc) (by rw [e5]; exact hv)
      refine ⟨H', res', bw', ?_, g1⟩
      simp only [f73_l1, n_lss, decide_eq_true hlt, z_cond, cond_true, blen (hw.fr hfr), decide_eq_false hib, cond_false]
      exact h1
theorem away_ok (K : Nat) (hK : 100000 < K) (d : Nat) (lo : Nat) {H0 H : Heap} {p w : SV} {ps vs : List Nat} (hw : Arr H0 w (limbs vs)) (hlo : lo = H0.size) (hfr : Frame H0 H) (hvs : Small vs) (hps : Small ps) {dd : Nat} (hm : ps.length < 100000) (hvm : vs.length < ps.length) (hdd : dd < B) {r : Nat} {pre post : List SV} (hwr : Wr lo H p r pre (limbs ps) post) :
    ∃ H' res bw, runQ wk tab slow K (d + 2) 73 [p, w, u32 dd] H = some (.bool (decide (bw ≠ 0)), H') ∧ Frame H0 H' ∧ H'.size = H.size ∧ (∀ r', r' ≠ r → H'.get r' = H.get r') ∧ Wr lo H' p r pre (limbs res) post ∧ Small res ∧ res.length = ps.length ∧ bw ≤ 1 ∧ val res + dd * val vs = val ps + B ^ ps.length * bw := by
  show ∃ H' res bw, f73 slow K (runQ wk tab slow K (d + 1)) p w (u32 dd) H = _ ∧ _
  obtain ⟨H', res, bw, h1, g1⟩ := away_loop K d lo hw hlo hvs hps hm rfl hvm hdd (Hs := H) ps.length 0 K 0 0 H [] (by omega) (by omega) B_pos (by omega) (fun _ => rfl) (fun d hd => by cases hd) rfl hfr rfl (fun _ _ => rfl) (by simpa using hwr) (by simp [val])
  refine ⟨H', res, bw, ?_, g1⟩
  simp only [f73, blen hwr.arr]
  exact h1
end Go.Sh.Of
namespace Go.Sh.Of
open Go

/-- The digit, guessed: it is right, or one too great. -/
theorem guess_loop (K : Nat) (C : CallC) (k42 : SV → SV → SV → SV → SV → SV → SV → SV → Heap → Rs) {H : Heap} {qb rb sh w u out : SV} {vs us : List Nat} {n j x u0 u1 u2 ur v1 v2 vr W P V q : Nat} (hw : Arr H w (limbs vs)) (hu : Arr H u (limbs us)) (hn : 2 ≤ n) (hn' : n < 100000) (hj : j < 100000) (hv1 : vs[n - 1]? = some v1) (hv2 : vs[n - 2]? = some v2) (hu2 : us[j + n - 2]? = some u2) (E : Est x u2 ur v1 v2 vr W P V q) (hnorm : B ≤ v1 + v1) (hv1B : v1 < B) (hx : x = u0 * B + u1) (hu1 : u1 < B) (hu0 : u0 ≤ v1) : ∀ (m fuel dd rr : Nat), m < fuel → B ≤ rr + m * v1 → rr < B → q ≤ dd → dd < B + 1 + 1 → dd * v1 + rr = x →
    ∃ d', slow.loop10 (f70_l3 slow K C k42) fuel qb rb (i64 n) sh w u out (i64 j) (u64 dd) (u64 rr) H = f70_j6 slow K C k42 qb rb (i64 n) sh w u out (i64 j) (u64 d') H ∧ d' < B ∧ q ≤ d' ∧ d' ≤ q + 1
  | 0, fuel, dd, rr, hf, hm, hrr, hq, hdd, hdx => by omega
  | m + 1, fuel, dd, rr, hf, hm, hrr, hq, hdd, hdx => by
    obtain ⟨fuel, rfl⟩ : ∃ q, fuel = q + 1 := ⟨fuel - 1, by omega⟩
    have hv2B : v2 < 4294967296 := E.v2
    have hv1B' : v1 < 4294967296 := hv1B
    have hrr' : rr < 4294967296 := hrr
    have hu2B : u2 < 4294967296 := E.u2
    have hddB : dd < 4294967296 + 1 + 1 := hdd
    have es1 : ∀ k, slow.sub (i64 n) (.int .i64 1) k = k (i64 (n - 1)) := fun k => n_subi k (b := 1) (by omega) (by omega)
    have es2 : ∀ k, slow.sub (i64 n) (.int .i64 2) k = k (i64 (n - 2)) := fun k => n_subi k (b := 2) (by omega) (by omega)
    have ea : ∀ k, slow.add (i64 j) (i64 n) k = k (i64 (j + n)) := fun k => n_addi k (by omega)
    have es3 : ∀ k, slow.sub (i64 (j + n)) (.int .i64 2) k = k (i64 (j + n - 2)) := fun k => n_subi k (b := 2) (by omega) (by omega)
    have esh : ∀ k, slow.shr (u64 dd) (.int .u64 32) k = k (u64 (dd / 4294967296)) := fun k => n_shr k .u64 .u64 dd 32 (by decide)
    have hne : ∀ k, slow.neq (u64 (dd / 4294967296)) (.int .u64 0) k = k (.bool (decide (dd / 4294967296 ≠ 0))) := fun k => n_neq k .u64 _ 0
    -- one less
    have less : q < dd → ∃ d', f70_j4 slow K C k42 (slow.loop10 (f70_l3 slow K C k42) fuel) qb rb (i64 n) sh w u out (i64 j) (u64 dd) (u64 rr) (.bool true) H = f70_j6 slow K C k42 qb rb (i64 n) sh w u out (i64 j) (u64 d') H ∧ d' < B ∧ q ≤ d' ∧ d' ≤ q + 1 := fun hlt => by
      have hdx2 : (dd - 1) * v1 + (rr + v1) = x := by
        rw [← hdx]
        obtain ⟨e, rfl⟩ : ∃ e, dd = e + 1 := ⟨dd - 1, by omega⟩
        rw [Nat.add_sub_cancel, Nat.add_mul, Nat.one_mul]
        generalize e * v1 = a
        omega
      have e1 : ∀ k, slow.sub (u64 dd) (.int .u64 1) k = k (u64 (dd - 1)) := fun k => n_sub64 k (b := 1) (by omega) (by omega)
      have e2 : ∀ k, slow.add (u64 rr) (u64 v1) k = k (u64 (rr + v1)) := fun k => n_add64 k (by omega)
      have e3 : ∀ k, slow.shr (u64 (rr + v1)) (.int .u64 32) k = k (u64 ((rr + v1) / 4294967296)) := fun k => n_shr k .u64 .u64 _ 32 (by decide)
      have e4 : ∀ k, slow.neq (u64 ((rr + v1) / 4294967296)) (.int .u64 0) k = k (.bool (decide ((rr + v1) / 4294967296 ≠ 0))) := fun k => n_neq k .u64 _ 0
      by_cases hb : (rr + v1) / 4294967296 ≠ 0
      · have hge : B ≤ rr + v1 := by
          show 4294967296 ≤ _
          omega
        obtain ⟨a1, a2⟩ := est_break (u2 := u2) hdx2 hx hu1 hu0 E.v1 E.v2 hge
        refine ⟨dd - 1, ?_, a1, by omega, est_end E hdx2 a1 a2⟩
        simp only [f70_j4, z_cond, cond_true, e1, es1, hw.load (limbs_get hv1), n_conv64 _ .u32 v1 (by omega), e2, e3, e4, decide_eq_true hb]
      · have hlt2 : rr + v1 < B := by
          show _ < 4294967296
          omega
        obtain ⟨d', h1, g1⟩ := guess_loop K C k42 (qb := qb) (rb := rb) (sh := sh) (out := out) hw hu hn hn' hj hv1 hv2 hu2 E hnorm hv1B hx hu1 hu0 m fuel (dd - 1) (rr + v1) (by omega) (by
          rw [Nat.add_mul, Nat.one_mul] at hm
          generalize m * v1 = a at *
          omega) hlt2 (by omega) (by omega) hdx2
        refine ⟨d', ?_, g1⟩
        simp only [f70_j4, z_cond, cond_true, e1, es1, hw.load (limbs_get hv1), n_conv64 _ .u32 v1 (by omega), e2, e3, e4, decide_eq_false hb, cond_false]
        exact h1
    rw [z_loop10]
    by_cases hbig : dd / 4294967296 ≠ 0
    · have hB : B ≤ dd := by
        show 4294967296 ≤ dd
        omega
      have := E.qB
      obtain ⟨d', h1, g1⟩ := less (by omega)
      refine ⟨d', ?_, g1⟩
      simp only [f70_l3, esh, hne, decide_eq_true hbig, z_guard, cond_true]
      exact h1
    · have hB : dd < 4294967296 := by omega
      have hb1 : dd * v2 ≤ 4294967295 * 4294967295 := Nat.mul_le_mul (by omega) (by omega)
      have e5 : ∀ k, slow.mul (u64 dd) (u64 v2) k = k (u64 (dd * v2)) := fun k => n_mul64 k (by omega)
      have e6 : ∀ k, slow.shl (u64 rr) (.int .u64 32) k = k (u64 (rr * 4294967296)) := fun k => n_shl64 k .u64 rr 32 (by decide) (by
        show rr * 4294967296 < _
        omega)
      have e7 : ∀ k, slow.or (u64 (rr * 4294967296)) (u64 u2) k = k (u64 (rr * 4294967296 + u2)) := fun k => by rw [n_or64 _ (by omega) (by omega), or_add _ _ hu2B]
      by_cases ht : dd * v2 > rr * 4294967296 + u2
      · obtain ⟨d', h1, g1⟩ := less (est_over E hdx ht)
        refine ⟨d', ?_, g1⟩
        simp only [f70_l3, esh, hne, decide_eq_false hbig, z_guard, cond_false, es2, hw.load (limbs_get hv2), n_conv64 _ .u32 v2 (by omega), e5, e6, ea, es3, hu.load (limbs_get hu2), n_conv64 _ .u32 u2 (by omega), e7, n_gtr, decide_eq_true ht]
        exact h1
      · refine ⟨dd, ?_, hB, hq, est_end E hdx hB (by
          show dd * v2 ≤ rr * 4294967296 + u2
          omega)⟩
        simp only [f70_l3, esh, hne, decide_eq_false hbig, z_guard, cond_false, es2, hw.load (limbs_get hv2), n_conv64 _ .u32 v2 (by omega), e5, e6, ea, es3, hu.load (limbs_get hu2), n_conv64 _ .u32 u2 (by omega), e7, n_gtr, decide_eq_false ht, f70_j4, z_cond]
/-- Once back. -/
theorem back_loop (K : Nat) (C : CallC) (k42 : SV → SV → SV → SV → SV → SV → SV → SV → Heap → Rs) (lo : Nat) {H0 : Heap} {qb rb sh w u out jv p : SV} {vs ps : List Nat} (hw : Arr H0 w (limbs vs)) (hlo : lo = H0.size) (hvs : Small vs) (hps : Small ps) {m : Nat} (hm : m < 100000) (hpm : ps.length = m) (hvm : vs.length < m) {r : Nat} {pre post : List SV} {Hs : Heap} : ∀ (j i fuel : Nat) (c : Nat) (H : Heap) (res : List Nat), i + j = m → j < fuel → c ≤ 1 → Small res → res.length = i → Frame H0 H → H.size = Hs.size → (∀ r', r' ≠ r → H.get r' = Hs.get r') → Wr lo H p r pre (limbs (res ++ ps.drop i)) post → val res + B ^ i * c = val (ps.take i) + val (vs.take i) →
    ∃ H' res' c', slow.loop12 (f70_l9 slow K C k42) fuel qb rb (i64 vs.length) sh w u out jv p (u64 c) (i64 m) (i64 i) H = f70_j7 slow K C k42 qb rb (i64 vs.length) sh w u out jv H' ∧ Frame H0 H' ∧ H'.size = Hs.size ∧ (∀ r', r' ≠ r → H'.get r' = Hs.get r') ∧ Wr lo H' p r pre (limbs res') post ∧ Small res' ∧ res'.length = m ∧ c' ≤ 1 ∧ val res' + B ^ m * c' = val ps + val vs
  | 0, i, fuel, c, H, res, hij, hf, hc, hrs, hrl, hfr, hsz, hkeep, hwr, hv => by
    obtain ⟨fuel, rfl⟩ : ∃ q, fuel = q + 1 := ⟨fuel - 1, by omega⟩
    have e : i = m := by omega
    subst e
    have hlt : ¬ i < i := Nat.lt_irrefl i
    rw [List.take_of_length_le (by omega), List.take_of_length_le (by omega)] at hv
    rw [List.drop_eq_nil_iff.2 (by omega), List.append_nil] at hwr
    refine ⟨H, res, c, ?_, hfr, hsz, hkeep, hwr, hrs, hrl, hc, hv⟩
    rw [z_loop12]
    simp only [f70_l9, n_lss, decide_eq_false hlt, z_cond, cond_false]
  | j + 1, i, fuel, c, H, res, hij, hf, hc, hrs, hrl, hfr, hsz, hkeep, hwr, hv => by
    obtain ⟨fuel, rfl⟩ : ∃ q, fuel = q + 1 := ⟨fuel - 1, by omega⟩
    have hlt : i < m := by omega
    obtain ⟨x, hx⟩ : ∃ x, ps[i]? = some x := ⟨_, List.getElem?_eq_getElem (by omega)⟩
    have hxB : x < 4294967296 := hps x (List.mem_of_getElem? hx)
    have hdx : ps.drop i = x :: ps.drop (i + 1) := List.drop_eq_getElem?_toList_append (l := ps) (i := i) ▸ by rw [hx]; rfl
    have hget : (limbs (res ++ ps.drop i))[i]? = some (u32 x) := limbs_get (by rw [hdx]; exact get_app_mid _ _ _ hrl)
    -- a step with the sum y
    have step : ∀ y, y < 8589934592 → val res + B ^ i * y = val (ps.take (i + 1)) + val (vs.take (i + 1)) → ∃ H' res' c', f70_j11 slow K C (slow.loop12 (f70_l9 slow K C k42) fuel) qb rb (i64 vs.length) sh w u out jv p (u64 y) (i64 i) (i64 m) (i64 i) H = f70_j7 slow K C k42 qb rb (i64 vs.length) sh w u out jv H' ∧ Frame H0 H' ∧ H'.size = Hs.size ∧ (∀ r', r' ≠ r → H'.get r' = Hs.get r') ∧ Wr lo H' p r pre (limbs res') post ∧ Small res' ∧ res'.length = m ∧ c' ≤ 1 ∧ val res' + B ^ m * c' = val ps + val vs := fun y hy hval => by
      have hyB : y % B < B := Nat.mod_lt _ B_pos
      have hyD : y / B ≤ 1 := by
        show y / 4294967296 ≤ 1
        omega
      obtain ⟨H1, st, w1, g1, sz1, rr1⟩ := hwr.store (i := i) (by rw [hdx]; simp; omega) (x := u32 (y % B)) rfl .i64
      rw [hdx, limbs_set, set_app_mid _ _ _ _ hrl] at w1
      obtain ⟨H2, res', c', h2, g2⟩ := back_loop K C k42 lo (qb := qb) (rb := rb) (sh := sh) (u := u) (out := out) (jv := jv) hw hlo hvs hps hm hpm hvm j (i + 1) fuel (y / B) H1 (res ++ [y % B]) (by omega) (by omega) hyD (small_app hrs (small_one hyB)) (by simp [hrl]) (Fr.trans hfr (by rw [← hlo]; exact g1)) (sz1.trans hsz) (fun r' hr' => (rr1 r' hr').trans (hkeep r' hr')) w1 (by
        rw [val_append, hrl, ← hval]
        simp only [val, Nat.mul_zero, Nat.add_zero]
        rw [Nat.pow_succ, Nat.mul_assoc, Nat.add_assoc, ← Nat.mul_add, Nat.mod_add_div])
      refine ⟨H2, res', c', ?_, g2⟩
      have e1 : y % 4294967296 = y % B := rfl
      have e2 : ∀ k, slow.shr (u64 y) (.int .u64 32) k = k (u64 (y / B)) := fun k => n_shr k .u64 .u64 y 32 (by decide)
      simp only [f70_j11, n_conv32, e1, st, e2, u_inc (show i < 1000000 by omega)]
      exact h2
    rw [z_loop12]
    by_cases hib : i < vs.length
    · obtain ⟨y, hy⟩ : ∃ y, vs[i]? = some y := ⟨_, List.getElem?_eq_getElem hib⟩
      have hyB : y < 4294967296 := hvs y (List.mem_of_getElem? hy)
      obtain ⟨H', res', c', h1, g1⟩ := step (c + x + y) (by omega) (by
        rw [val_take hx, val_take hy, Nat.mul_add, Nat.mul_add]
        generalize B ^ i * c = a at *
        generalize B ^ i * x = b at *
        generalize B ^ i * y = e at *
        omega)
      refine ⟨H', res', c', ?_, g1⟩
      simp only [f70_l9, n_lss, decide_eq_true hlt, z_cond, cond_true, hwr.arr.load hget, n_conv64 _ .u32 x (by omega), decide_eq_true hib, (hw.fr hfr).load (limbs_get hy), n_conv64 _ .u32 y (by omega)]
      rw [n_add64 _ (by omega)]
      simp only [n_add64 _ (show c + x + y < 18446744073709551616 by omega)]
      exact h1
    · have e5 : vs.take (i + 1) = vs.take i := by rw [List.take_of_length_le (by omega), List.take_of_length_le (by omega)]
      obtain ⟨H', res', c', h1, g1⟩ := step (c + x) (by omega) (by
        rw [e5, val_take hx, Nat.mul_add]
        generalize B ^ i * c = a at *
        generalize B ^ i * x = b at *
        omega)
      refine ⟨H', res', c', ?_, g1⟩
      simp only [f70_l9, n_lss, decide_eq_true hlt, z_cond, cond_true, hwr.arr.load hget, n_conv64 _ .u32 x (by omega), n_add64 _ (show c + x < 18446744073709551616 by omega), decide_eq_false hib, cond_false]
      exact h1
end Go.Sh.Of
namespace Go.Sh.Of
open Go

theorem Own.ge2 {lo : Nat} {H : Heap} {v : SV} {cs : List SV} (h : Own lo H v cs) {r : Nat} (hr : inRow v r) : lo ≤ r := by
  obtain ⟨base, rfl, h⟩ := h
  obtain ⟨s, o, e, h4⟩ := hr
  cases e
  rcases h with ⟨rfl, _⟩ | ⟨r', ver, rfl, h2, h3⟩
  · cases h4
  · cases h4; exact h2
theorem val_top2 {l : List Nat} {n a b : Nat} (hl : l.length = n) (hn : 2 ≤ n) (ha : l[n - 1]? = some a) (hb : l[n - 2]? = some b) : val l = (a * B + b) * B ^ (n - 2) + val (l.take (n - 2)) := by
  rw [val_split (l := l) (i := n - 2) (by omega), val_drop hb, show n - 2 + 1 = n - 1 by omega, val_drop ha, show n - 1 + 1 = n by omega, List.drop_eq_nil_iff.2 (by omega)]
  simp only [val, Nat.mul_zero, Nat.add_zero]
  rw [Nat.add_comm (val _), Nat.mul_comm (B ^ (n - 2)), Nat.add_comm b, Nat.mul_comm B a]
theorem val_top3 {l : List Nat} {n a b c : Nat} (hl : l.length = n + 1) (hn : 2 ≤ n) (ha : l[n]? = some a) (hb : l[n - 1]? = some b) (hc : l[n - 2]? = some c) : val l = ((a * B + b) * B + c) * B ^ (n - 2) + val (l.take (n - 2)) := by
  rw [val_split (l := l) (i := n - 2) (by omega), val_drop hc, show n - 2 + 1 = n - 1 by omega, val_drop hb, show n - 1 + 1 = n by omega, val_drop ha, List.drop_eq_nil_iff.2 (by omega)]
  simp only [val, Nat.mul_zero, Nat.add_zero]
  rw [Nat.add_comm (val _), Nat.mul_comm (B ^ (n - 2)), Nat.add_comm c, Nat.mul_comm B (b + B * a), Nat.add_comm b, Nat.mul_comm B a]
theorem top_le {x u0 u1 u2 ur v1 v2 vr W P V : Nat} (hP : P = (x * B + u2) * W + ur) (hV : V = (v1 * B + v2) * W + vr) (hx : x = u0 * B + u1) (hv2 : v2 < B) (hvr : vr < W) (hlt : P < V * B) : u0 ≤ v1 := by
  refine Decidable.byContradiction fun hn => ?_
  have h1 : v1 + 1 ≤ u0 := by omega
  have h2 : (v1 + 1) * (B * B * W) ≤ u0 * (B * B * W) := Nat.mul_le_mul_right _ h1
  have h3 : (v2 + 1) * W ≤ B * W := Nat.mul_le_mul_right _ hv2
  have h4 : V < (v1 + 1) * (B * W) := by
    rw [hV]
    simp only [Nat.add_mul, Nat.one_mul, Nat.mul_assoc] at h3 ⊢
    generalize v1 * (B * W) = a at *
    generalize v2 * W = b at *
    generalize B * W = c at *
    omega
  have h5 : V * B < (v1 + 1) * (B * W) * B := Nat.mul_lt_mul_of_pos_right h4 B_pos
  have h6 : (v1 + 1) * (B * W) * B = (v1 + 1) * (B * B * W) := by
    rw [Nat.mul_assoc, Nat.mul_right_comm B W B]
  have h7 : u0 * (B * B * W) ≤ P := by
    rw [hP, hx]
    simp only [Nat.add_mul, Nat.mul_assoc]
    generalize u0 * (B * (B * W)) = a
    omega
  omega
theorem long_loop (K : Nat) (hK : 200000 < K) (d : Nat) {H0 : Heap} {w u out : SV} {vs : List Nat} {n m sh v1 v2 r lo2 U0 : Nat} (hw : Arr H0 w (limbs vs)) (hvs : Small vs) (hnl : vs.length = n) (hn : 2 ≤ n) (hn' : n < 40000) (hm : m < 40000) (hsh : sh ≤ 31) (hv1 : vs[n - 1]? = some v1) (hv2 : vs[n - 2]? = some v2) (hnorm : B ≤ v1 + v1) (hr : r < lo2) (hlo2 : H0.size ≤ lo2) : ∀ (jn fuel : Nat) (H : Heap) (us outs : List Nat), jn ≤ m → jn < fuel → Frame H0 H → us.length = m + n → Small us → Wr H0.size H u r [] (limbs us) [] → Own lo2 H out (limbs outs) → outs.length = m → Small outs → (∀ i, i < jn → outs[i]? = some 0) → val (us.drop jn) < val vs → val us + val vs * val outs = U0 →
    ∃ q rr H', slow.loop8 (f70_l1 slow K (runQ wk tab slow K (d + 2))) fuel (.box [.slice nilSl]) (.box [.slice nilSl]) (i64 n) (i64 sh) w u out (.int .i64 ((jn : Int) - 1)) H = some (.tuple [q, rr], H') ∧ Frame H0 H' ∧ IsNat H' q (U0 / val vs) ∧ IsNat H' rr (U0 % val vs / 2 ^ sh)
  | 0, fuel, H, us, outs, hjm, hf, hfr, hul, hus, hwr, ho, hol, hos, hz, hlt, hU => by
    obtain ⟨fuel, rfl⟩ : ∃ q, fuel = q + 1 := ⟨fuel - 1, by omega⟩
    have hneg : ¬ (((0 : Nat) : Int) - 1 ≥ 0) := by omega
    rw [List.drop_zero] at hlt
    have hV : 0 < val vs := by omega
    obtain ⟨sl, h1, cu⟩ := cut_ok K (d + 1) H ho.arr hos ho.root (by omega) (by omega)
    rw [show d + 1 + 1 = d + 2 from rfl] at h1
    obtain ⟨rr, H1, h2, g2, n2⟩ := down_ok K (by omega) d H hwr.arr hus hsh (by omega)
    have hq : val outs = U0 / val vs := by
      rw [← hU, Nat.add_mul_div_left _ _ hV, Nat.div_eq_of_lt hlt, Nat.zero_add]
    have hrem : val us = U0 % val vs := by
      rw [← hU, Nat.add_mul_mod_self_left, Nat.mod_eq_of_lt hlt]
    have n1 := cu.isNat
    rw [hq] at n1
    rw [hrem] at n2
    have n2' := n2
    obtain ⟨y, rfl, _, _⟩ := n2
    refine ⟨.agg [sl], .agg [y], H1, ?_, Frame.trans hfr g2, n1.fr g2, n2'⟩
    rw [z_loop8]
    simp only [f70_l1, z_geq, decide_eq_false hneg, z_cond, cond_false, h1, z_call, h2, z_bst1, z_resc1]
  | j + 1, fuel, H, us, outs, hjm, hf, hfr, hul, hus, hwr, ho, hol, hos, hz, hlt, hU => by
    obtain ⟨fuel, rfl⟩ : ∃ q, fuel = q + 1 := ⟨fuel - 1, by omega⟩
    have hpos : ((j + 1 : Nat) : Int) - 1 ≥ 0 := by omega
    have ej : ((j + 1 : Nat) : Int) - 1 = (j : Int) := by omega
    have hV0 : 0 < val vs := by omega
    have hVB : val vs < B ^ n := by rw [← hnl]; exact val_lt hvs
    obtain ⟨u0, hu0⟩ : ∃ x, us[j + n]? = some x := ⟨_, List.getElem?_eq_getElem (by omega)⟩
    obtain ⟨u1, hu1⟩ : ∃ x, us[j + n - 1]? = some x := ⟨_, List.getElem?_eq_getElem (by omega)⟩
    obtain ⟨u2, hu2⟩ : ∃ x, us[j + n - 2]? = some x := ⟨_, List.getElem?_eq_getElem (by omega)⟩
    obtain ⟨uj, huj⟩ : ∃ x, us[j]? = some x := ⟨_, List.getElem?_eq_getElem (by omega)⟩
    have hu0B : u0 < 4294967296 := hus u0 (List.mem_of_getElem? hu0)
    have hu1B : u1 < 4294967296 := hus u1 (List.mem_of_getElem? hu1)
    have hu2B : u2 < 4294967296 := hus u2 (List.mem_of_getElem? hu2)
    have hujB : uj < B := hus uj (List.mem_of_getElem? huj)
    have hv1B : v1 < 4294967296 := hvs v1 (List.mem_of_getElem? hv1)
    have hv2B : v2 < B := hvs v2 (List.mem_of_getElem? hv2)
    obtain ⟨ps, hps⟩ : ∃ ps, ps = (us.drop j).take (n + 1) := ⟨_, rfl⟩
    have hpsl : ps.length = n + 1 := by rw [hps]; simp; omega
    have hpsS : Small ps := by rw [hps]; exact small_take (small_drop hus j) _
    -- the part's value
    have hPlt : val (us.drop j) < val vs * B := by
      rw [val_drop huj]
      have : B * (val (us.drop (j + 1)) + 1) ≤ B * val vs := Nat.mul_le_mul_left _ hlt
      rw [Nat.mul_add, Nat.mul_one, Nat.mul_comm B (val vs)] at this
      omega
    have hsp : val (us.drop j) = val ps + B ^ (n + 1) * val (us.drop (j + (n + 1))) := by
      rw [hps, val_split (l := us.drop j) (i := n + 1) (by simp; omega), List.drop_drop]
    have hhi : val (us.drop (j + (n + 1))) = 0 := by
      rcases Nat.eq_zero_or_pos (val (us.drop (j + (n + 1)))) with h | h
      · exact h
      · have h1 : B ^ (n + 1) * 1 ≤ B ^ (n + 1) * val (us.drop (j + (n + 1))) := Nat.mul_le_mul_left _ h
        have h2 : val vs * B ≤ B ^ (n + 1) := by
          rw [Nat.pow_succ]
          exact Nat.mul_le_mul_right _ (Nat.le_of_lt hVB)
        omega
    rw [hhi, Nat.mul_zero, Nat.add_zero] at hsp
    rw [hsp] at hPlt
    have gp : ∀ i, i < n + 1 → ps[i]? = us[j + i]? := fun i hi => by
      rw [hps, List.getElem?_take, if_pos hi, List.getElem?_drop]
    have hp0 : ps[n]? = some u0 := by rw [gp n (by omega)]; exact hu0
    have hp1 : ps[n - 1]? = some u1 := by rw [gp (n - 1) (by omega), show j + (n - 1) = j + n - 1 by omega]; exact hu1
    have hp2 : ps[n - 2]? = some u2 := by rw [gp (n - 2) (by omega), show j + (n - 2) = j + n - 2 by omega]; exact hu2
    have hPv := val_top3 hpsl hn hp0 hp1 hp2
    have hVv := val_top2 hnl hn hv1 hv2
    have hvr : val (vs.take (n - 2)) < B ^ (n - 2) := by
      have := val_lt (small_take hvs (n - 2))
      rwa [List.length_take, Nat.min_eq_left (by omega)] at this
    have hur : val (ps.take (n - 2)) < B ^ (n - 2) := by
      have := val_lt (small_take hpsS (n - 2))
      rwa [List.length_take, Nat.min_eq_left (by omega)] at this
    have hle0 : u0 ≤ v1 := top_le hPv hVv rfl hv2B hvr hPlt
    have hdm := Nat.div_add_mod (val ps) (val vs)
    have hmod := Nat.mod_lt (val ps) hV0
    have E : Est (u0 * B + u1) u2 (val (ps.take (n - 2))) v1 v2 (val (vs.take (n - 2))) (B ^ (n - 2)) (val ps) (val vs) (val ps / val vs) := ⟨hPv, hVv, hur, hvr, hu2B, hv2B, by
      have : 0 < B := B_pos
      omega, Nat.div_mul_le_self _ _, by
      rw [Nat.add_mul, Nat.one_mul, Nat.mul_comm]
      omega, Nat.div_lt_of_lt_mul hPlt⟩
    obtain ⟨q, hqe⟩ : ∃ q, q = val ps / val vs := ⟨_, rfl⟩
    rw [← hqe] at E hdm
    have hv10 : v1 ≠ 0 := Nat.pos_iff_ne_zero.1 E.v1
    obtain ⟨d', hg, hd1, hd2, hd3⟩ := guess_loop K (runQ wk tab slow K (d + 2)) (slow.loop8 (f70_l1 slow K (runQ wk tab slow K (d + 2))) fuel) (H := H) (qb := .box [.slice nilSl]) (rb := .box [.slice nilSl]) (sh := i64 sh) (out := out) (hw.fr hfr) hwr.arr hn (by omega) (show j < 100000 by omega) hv1 hv2 hu2 E hnorm hv1B rfl hu1B hle0 2 K ((u0 * B + u1) / v1) ((u0 * B + u1) % v1) (by omega) (by
      have : 4294967296 ≤ v1 + v1 := hnorm
      show 4294967296 ≤ _
      omega) (Nat.lt_trans (Nat.mod_lt _ E.v1) hv1B) (est_start E) (est_first rfl hu1B hle0 hnorm) (by rw [Nat.mul_comm]; exact Nat.div_add_mod _ _)
    have hd1' : d' < 4294967296 := hd1
    -- the window
    obtain ⟨p, hop, hwp, hback⟩ := Wr.window hwr (j := j) (k := n + 1) (by simp; omega) (by omega)
    have e1 : (limbs us).take j = limbs (us.take j) := by simp [limbs, List.map_take]
    have e2 : ((limbs us).drop j).take (n + 1) = limbs ps := by rw [hps]; simp [limbs, List.map_take, List.map_drop]
    have e3 : (limbs us).drop (j + (n + 1)) = limbs (us.drop (j + (n + 1))) := by simp [limbs, List.map_drop]
    rw [e2] at hwp
    obtain ⟨H1, res, bw, h1, g1, sz1, k1, w1, s1, l1, b1, v1'⟩ := away_ok K (by omega) d H0.size hw rfl hfr hvs hpsS (by omega) (by omega) hd1 hwp
    have ho1 : Own lo2 H1 out (limbs outs) := Own.of_rows ho fun r' hr' => k1 r' fun e => by
      have := Own.ge2 ho hr'
      omega
    -- what follows
    have next : ∀ (H2 : Heap) (res' : List Nat), Frame H0 H2 → Wr H0.size H2 p r ((limbs us).take j) (limbs res') ((limbs us).drop (j + (n + 1))) → Own lo2 H2 out (limbs (outs.set j q)) → Small res' → res'.length = n + 1 → val res' = val ps % val vs → ∃ qq rr H', f70_j7 slow K (runQ wk tab slow K (d + 2)) (slow.loop8 (f70_l1 slow K (runQ wk tab slow K (d + 2))) fuel) (.box [.slice nilSl]) (.box [.slice nilSl]) (i64 n) (i64 sh) w u out (i64 j) H2 = some (.tuple [qq, rr], H') ∧ Frame H0 H' ∧ IsNat H' qq (U0 / val vs) ∧ IsNat H' rr (U0 % val vs / 2 ^ sh) := fun H2 res' hf2 hw2 ho2 hs2 hl2 hv2' => by
      have hw3 := hback H2 (limbs res') hw2 (by simp; omega)
      have e4 : (limbs us).take j ++ limbs res' ++ (limbs us).drop (j + (n + 1)) = limbs (us.take j ++ res' ++ us.drop (j + (n + 1))) := by rw [e1, e3]; simp [limbs]
      rw [e4] at hw3
      have hvs2 := val_set (hz j (by omega)) (z := q)
      rw [Nat.zero_mul, Nat.add_zero] at hvs2
      have hqB : q < B := E.qB
      have hjl : (us.take j).length = j := by simp; omega
      have hvn : val (us.take j ++ res' ++ us.drop (j + (n + 1))) = val (us.take j) + B ^ j * val res' := by
        rw [List.append_assoc, val_append, hjl, val_append, hhi, Nat.mul_zero, Nat.add_zero]
      have hvo : val us = val (us.take j) + B ^ j * val ps := by rw [val_split (l := us) (i := j) (by omega), hsp]
      obtain ⟨qq, rr, H3, h3, g3⟩ := long_loop (U0 := U0) K hK d hw hvs hnl hn hn' hm hsh hv1 hv2 hnorm hr hlo2 j fuel H2 _ (outs.set j q) (by omega) (by omega) hf2 (by simp; omega) (small_app (small_app (small_take hus j) hs2) (small_drop hus _)) hw3 ho2 (by simp [hol]) (small_set hos hqB) (fun i hi => by
        rw [List.getElem?_set_ne (by omega)]
        exact hz i (by omega)) (by
        rw [List.append_assoc, List.drop_left' hjl, val_append, hhi, Nat.mul_zero, Nat.add_zero, hv2']
        exact hmod) (by
        have hP : B ^ j * val ps = B ^ j * (val ps % val vs) + val vs * (q * B ^ j) := by
          have h9 : B ^ j * (val vs * q + val ps % val vs) = B ^ j * val ps := by rw [hdm]
          rw [← h9, Nat.mul_add, Nat.add_comm, Nat.mul_left_comm (B ^ j) (val vs) q, Nat.mul_comm (B ^ j) q]
        rw [hvn, hvs2, hv2', ← hU, hvo, hP, Nat.mul_add]
        generalize B ^ j * (val ps % val vs) = a
        generalize val vs * (q * B ^ j) = b
        generalize val vs * val outs = c
        omega)
      refine ⟨qq, rr, H3, ?_, g3⟩
      unfold f70_j7
      rw [z_sub64 (by omega) (by omega)]
      exact h3
    have ej2 : ∀ k, slow.add (i64 j) (i64 n) k = k (i64 (j + n)) := fun k => n_addi k (by omega)
    have hlim : val res < B ^ (n + 1) := by rw [← hpsl, ← l1]; exact val_lt s1
    rw [hpsl] at v1'
    have htop : ∀ A : Rs, f70_j6 slow K (runQ wk tab slow K (d + 2)) (slow.loop8 (f70_l1 slow K (runQ wk tab slow K (d + 2))) fuel) (.box [.slice nilSl]) (.box [.slice nilSl]) (i64 n) (i64 sh) w u out (i64 j) (u64 d') H = A → slow.loop8 (f70_l1 slow K (runQ wk tab slow K (d + 2))) (fuel + 1) (.box [.slice nilSl]) (.box [.slice nilSl]) (i64 n) (i64 sh) w u out (.int .i64 (((j + 1 : Nat) : Int) - 1)) H = A := fun A hA => by
      have es1 : ∀ k, slow.sub (i64 n) (.int .i64 1) k = k (i64 (n - 1)) := fun k => n_subi k (b := 1) (by omega) (by omega)
      have es2 : ∀ k, slow.sub (i64 (j + n)) (.int .i64 1) k = k (i64 (j + n - 1)) := fun k => n_subi k (b := 1) (by omega) (by omega)
      have e6 : ∀ k, slow.shl (u64 u0) (.int .u64 32) k = k (u64 (u0 * 4294967296)) := fun k => n_shl64 k .u64 u0 32 (by decide) (by
        show u0 * 4294967296 < _
        omega)
      have e7 : ∀ k, slow.or (u64 (u0 * 4294967296)) (u64 u1) k = k (u64 (u0 * B + u1)) := fun k => by
        rw [n_or64 _ (by omega) (by omega), or_add _ _ hu1B]
        rfl
      have hx64 : u0 * B + u1 < 18446744073709551616 := by
        show u0 * 4294967296 + u1 < _
        omega
      have e8 : ∀ k, slow.quo (u64 (u0 * B + u1)) (u64 v1) k = k (u64 ((u0 * B + u1) / v1)) := fun k => n_quo64 k _ hv10 hx64
      have e9 : ∀ k, slow.rem (u64 (u0 * B + u1)) (u64 v1) k = k (u64 ((u0 * B + u1) % v1)) := fun k => n_rem k .u64 _ hv10
      rw [z_loop8, ej]
      have hjpos : (j : Int) ≥ 0 := by omega
      simp only [f70_l1, z_geq, decide_eq_true hjpos, z_cond, cond_true, ej2, hwr.arr.load (limbs_get hu0), n_conv64 _ .u32 u0 (by omega), e6, es2, hwr.arr.load (limbs_get hu1), n_conv64 _ .u32 u1 (by omega), e7, es1, (hw.fr hfr).load (limbs_get hv1), n_conv64 _ .u32 v1 (by omega), e8, e9]
      rw [hg]
      exact hA
    have ec : ∀ k, slow.conv .u32 (u64 d') k = k (u32 d') := fun k => by rw [n_conv32, Nat.mod_eq_of_lt hd1']
    have hop' : ∀ kk, slow.slice111 1 u (i64 j) (i64 (j + n + 1)) (i64 (j + n + 1)) H kk = kk p := hop
    have hqd : q * val vs + val ps % val vs = val ps := by rw [Nat.mul_comm]; exact hdm
    by_cases hb0 : bw = 0
    · subst hb0
      rw [Nat.mul_zero, Nat.add_zero] at v1'
      have hde : d' = q := by
        have h1 : d' * val vs < (q + 1) * val vs := Nat.lt_of_le_of_lt (by omega) E.lt
        have := Nat.lt_of_mul_lt_mul_right h1
        omega
      obtain ⟨H2, st, o2, g2, sz2, rr2⟩ := ho1.store (i := j) (by simp; omega) (x := u32 d') rfl .i64
      rw [limbs_set, hde] at o2
      have hrow : H2.get r = H1.get r := g2.rows r hr
      obtain ⟨qq, rr, H3, h3, g3⟩ := next H2 res (Fr.trans g1 (g2.mono hlo2)) (w1.row hrow) o2 s1 (by omega) (by rw [hde] at v1'; omega)
      refine ⟨qq, rr, H3, htop _ ?_, g3⟩
      have hb : decide ((0 : Nat) ≠ 0) = false := rfl
      simp only [f70_j6, ej2, u_inc (show j + n < 1000000 by omega), hop', ec, h1, z_call, hb, z_not, Bool.not_false, z_cond, cond_true, st]
      exact h3
    · have hb1 : bw = 1 := by omega
      subst hb1
      rw [Nat.mul_one] at v1'
      have hde : d' = q + 1 := by
        have h1 : ¬ d' ≤ q := fun h => by
          have := Nat.mul_le_mul_right (val vs) h
          omega
        omega
      have hd0 : d' + 4294967296 - 1 = q + 4294967296 := by omega
      have hqB : q < 4294967296 := E.qB
      have esub : ∀ k, slow.sub (u32 d') (.int .u32 1) k = k (u32 q) := fun k => by
        rw [show (SV.int .u32 1) = u32 1 from rfl, n_sub32 _ hd1' (by omega), hd0, Nat.add_mod_right, Nat.mod_eq_of_lt hqB]
      obtain ⟨H2, st, o2, g2, sz2, rr2⟩ := ho1.store (i := j) (by simp; omega) (x := u32 q) rfl .i64
      rw [limbs_set] at o2
      have hrow : H2.get r = H1.get r := g2.rows r hr
      obtain ⟨H3, res', c', h3, g3, sz3, k3, w3, s3, l3, b3, v3⟩ := back_loop K (runQ wk tab slow K (d + 2)) (slow.loop8 (f70_l1 slow K (runQ wk tab slow K (d + 2))) fuel) H0.size (qb := .box [.slice nilSl]) (rb := .box [.slice nilSl]) (sh := i64 sh) (u := u) (out := out) (jv := i64 j) hw rfl hvs s1 (m := n + 1) (by omega) (by omega) (by omega) (Hs := H2) (n + 1) 0 K 0 H2 [] (by omega) (by omega) (by omega) (fun d hd => by cases hd) rfl (Fr.trans g1 (g2.mono hlo2)) rfl (fun _ _ => rfl) (by simpa using w1.row hrow) (by simp [val])
      rw [hnl] at h3
      have hlim' : val res' < B ^ (n + 1) := by rw [← l3]; exact val_lt s3
      have hsum : val res + val vs = B ^ (n + 1) + val ps % val vs := by
        rw [hde, Nat.add_mul, Nat.one_mul] at v1'
        generalize q * val vs = a at *
        omega
      have hm2 : val ps % val vs < B ^ (n + 1) := by
        have : val vs * 1 ≤ val vs * B := Nat.mul_le_mul_left _ B_pos
        have h2 : val vs * B ≤ B ^ (n + 1) := by
          rw [Nat.pow_succ]
          exact Nat.mul_le_mul_right _ (Nat.le_of_lt hVB)
        omega
      have hc' : c' = 1 := by
        rcases Nat.eq_zero_or_pos c' with h | h
        · rw [h] at v3; omega
        · omega
      rw [hc', Nat.mul_one] at v3
      have o3 : Own lo2 H3 out (limbs (outs.set j q)) := Own.of_rows o2 fun r' hr' => k3 r' fun e => by
        have := Own.ge2 o2 hr'
        omega
      obtain ⟨qq, rr, H4, h4, g4⟩ := next H3 res' g3 w3 o3 s3 (by omega) (by omega)
      refine ⟨qq, rr, H4, htop _ ?_, g4⟩
      have hb : decide ((1 : Nat) ≠ 0) = true := rfl
      have hpl : ∀ k, slow.len p k = k (i64 (n + 1)) := fun k => by rw [blen w1.arr, l1, hpsl]
      simp only [f70_j6, ej2, u_inc (show j + n < 1000000 by omega), hop', ec, h1, z_call, hb, z_not, Bool.not_true, z_cond, cond_false, esub, st, hpl]
      exact h3.trans h4
end Go.Sh.Of
namespace Go.Sh.Of
open Go

theorem y_bbox (cs : List SV) (k : KL) : slow.bbox (.agg cs) k = k cs := Eq.trans rfl rfl
theorem y_lfld (off : Nat) (cs : List SV) (k : K1) : slow.lfld off (.box cs) k = k (.lptr off) := Eq.trans rfl rfl
theorem lz_ok (K : Nat) (d : Nat) (H : Heap) {n : Nat} (hn : n < 4294967296) : runQ wk tab slow K (d + 2) 71 [u32 n] H = some (i64 (32 - bl n), H) := by
  show f71 slow K (runQ wk tab slow K (d + 1)) (u32 n) H = _
  have h : bl n ≤ 32 := bl_le.2 (show n < 2 ^ 32 from hn)
  have es : ∀ k, slow.sub (.int .i64 32) (i64 (bl n)) k = k (i64 (32 - bl n)) := fun k => n_subi k (a := 32) h (by omega)
  simp only [f71, len32_ok K d H hn, z_call, es, z_rest_int]
theorem norm_top {l : List Nat} {n t : Nat} (hs : Small l) (hl : l.length = n) (hn : 1 ≤ n) (ht : l[n - 1]? = some t) (hV : B ^ n ≤ val l + val l) : B ≤ t + t := by
  have h4 := val_split (l := l) (i := n - 1) (by omega)
  rw [val_drop ht, show n - 1 + 1 = n by omega, List.drop_eq_nil_iff.2 (by omega)] at h4
  simp only [val, Nat.mul_zero, Nat.add_zero] at h4
  have h5 := val_lt (small_take hs (n - 1))
  rw [List.length_take, Nat.min_eq_left (by omega)] at h5
  have h6 : B ^ n = B ^ (n - 1) * B := by rw [← Nat.pow_succ, show (n - 1).succ = n by omega]
  refine Decidable.byContradiction fun h7 => ?_
  have h8 : t + t + 1 + 1 ≤ B := by
    have h9 : ¬ 4294967296 ≤ t + t := h7
    show t + t + 1 + 1 ≤ 4294967296
    omega
  have h9 : B ^ (n - 1) * (t + t + 1 + 1) ≤ B ^ (n - 1) * B := Nat.mul_le_mul_left _ h8
  rw [← h6] at h9
  have h10 : B ^ (n - 1) * (t + t + 1 + 1) = B ^ (n - 1) * t + B ^ (n - 1) * t + B ^ (n - 1) + B ^ (n - 1) := by
    rw [Nat.mul_add, Nat.mul_add, Nat.mul_add, Nat.mul_one]
  rw [h10] at h9
  omega
theorem long_run (K d : Nat) (H : Heap) (v w : SV) : runQ wk tab slow K (d + 3) 70 [v, w] H = f70 slow K (runQ wk tab slow K (d + 2)) v w H := Eq.trans rfl rfl
theorem long_ok (K : Nat) (hK : 200000 < K) (d : Nat) (H : Heap) {v w : SV} {a b : Nat} (hv : IsNat H v a) (hw : IsNat H w b) (hb2 : 2 ≤ (digs b).length) (hab : b ≤ a) (ha : (digs a).length < 30000) :
    ∃ q r H', runQ wk tab slow K (d + 3) 70 [v, w] H = some (.tuple [q, r], H') ∧ Frame H H' ∧ IsNat H' q (a / b) ∧ IsNat H' r (a % b) := by
  obtain ⟨x, rfl, hx, _⟩ := hv
  obtain ⟨y, rfl, hy, _⟩ := hw
  obtain ⟨n, hn⟩ : ∃ n, (digs b).length = n := ⟨_, rfl⟩
  obtain ⟨la, hla⟩ : ∃ la, (digs a).length = la := ⟨_, rfl⟩
  rw [hn] at hb2
  rw [hla] at ha
  have hnla : n ≤ la := by
    refine Decidable.byContradiction fun h => ?_
    have := val_cmp_len (a := a) (b := b) (by omega)
    omega
  have hb0 : b ≠ 0 := fun e => by rw [e, digs_zero] at hn; simp at hn; omega
  obtain ⟨tb, htb, htb0, htbB, hbl⟩ := bl_digs hb0
  rw [hn] at hbl
  have htb' : (digs b)[n - 1]? = some tb := by rw [← hn, ← List.getLast?_eq_getElem?]; exact htb
  have hbl32 : bl tb ≤ 32 := bl_le.2 (show tb < 2 ^ 32 from htbB)
  have hbl1 : 1 ≤ bl tb := Decidable.byContradiction fun h => by
    have := (bl_le (n := tb) (k := 0)).1 (by omega)
    simp at this
    omega
  obtain ⟨sh, hsh⟩ : ∃ sh, 32 - bl tb = sh := ⟨_, rfl⟩
  have hsh31 : sh ≤ 31 := by omega
  -- the sizes
  have hBn : B ^ n = 2 ^ bl b * 2 ^ sh := pow_B2 (by omega)
  have hb1 : b < 2 ^ bl b := bl_le.1 (Nat.le_refl _)
  have hb3 : 2 ^ (bl b - 1) ≤ b := Decidable.byContradiction fun h => by
    have := (bl_le (n := b) (k := bl b - 1)).2 (by omega)
    omega
  have hVlt : b * 2 ^ sh < B ^ n := by
    rw [hBn]
    exact Nat.mul_lt_mul_of_pos_right hb1 (Nat.pow_pos (by decide))
  have hVge : B ^ n ≤ b * 2 ^ sh + b * 2 ^ sh := by
    have h1 : B ^ n = 2 ^ (bl b - 1) * 2 ^ (sh + 1) := pow_B2 (by omega)
    rw [h1, Nat.pow_succ, ← Nat.mul_assoc, Nat.mul_two]
    exact Nat.add_le_add (Nat.mul_le_mul_right _ hb3) (Nat.mul_le_mul_right _ hb3)
  have haB : a < B ^ la := by
    have := val_lt (digs_small a)
    rwa [val_digs, hla] at this
  have hbB : B ^ (n - 1) ≤ b := by
    rw [pow_B (m := n - 1) (k := 32 * (n - 1)) rfl]
    exact Nat.le_trans (pow_mono2 _ _ (by omega)) hb3
  have h31 := pow_32 hsh31
  have hUlt : a * 2 ^ sh < B ^ (la + 1) := by
    rw [Nat.pow_succ]
    exact Nat.mul_lt_mul'' haB (by show _ < 4294967296; omega)
  -- the two are shifted
  obtain ⟨w1, H1, vs, h1, g1, o1, s1, l1, v1⟩ := up_ok K (by omega) (d + 1) H hy (digs_small b) hsh31 (show n < 100000 by omega) (by omega) (by rw [val_digs]; exact hVlt)
  rw [show d + 1 + 1 = d + 2 from rfl] at h1
  rw [val_digs] at v1
  obtain ⟨u1, H2, us, h2, g2, o2, s2, l2, v2⟩ := up_ok K (by omega) (d + 1) H1 (hx.fr g1) (digs_small a) hsh31 (show la + 1 < 100000 by omega) (by omega) (by rw [val_digs]; exact hUlt)
  rw [show d + 1 + 1 = d + 2 from rfl] at h2
  rw [val_digs] at v2
  obtain ⟨m, hm⟩ : ∃ m, la + 1 - n = m := ⟨_, rfl⟩
  obtain ⟨r, wr⟩ := o2.wr (fun e => by
    have h := congrArg List.length e
    rw [limbs_len, List.length_nil] at h
    omega)
  have hrlt := wr.lt
  obtain ⟨o, H3, h3, o3, g3, _, _⟩ := z_make (H := H2) (lo := H2.size) (Nat.le_refl _) 4 (.int .u32 0) m (by omega) (roomy_small (by omega)) .i64 .i64
  rw [limbs_zeros] at o3
  obtain ⟨v1', hv1'⟩ : ∃ t, vs[n - 1]? = some t := ⟨_, List.getElem?_eq_getElem (by omega)⟩
  obtain ⟨v2', hv2'⟩ : ∃ t, vs[n - 2]? = some t := ⟨_, List.getElem?_eq_getElem (by omega)⟩
  have hnorm : B ≤ v1' + v1' := norm_top s1 l1 (by omega) hv1' (by rw [v1]; exact hVge)
  have htop : val (us.drop m) < val vs := by
    rw [← val_div s2 (by omega)]
    refine Nat.div_lt_of_lt_mul ?_
    rw [v2, v1, ← Nat.mul_assoc]
    refine Nat.mul_lt_mul_of_pos_right ?_ (Nat.pow_pos (by decide))
    have h4 : B ^ la = B ^ m * B ^ (n - 1) := by rw [← Nat.pow_add, show m + (n - 1) = la by omega]
    rw [h4] at haB
    exact Nat.lt_of_lt_of_le haB (Nat.mul_le_mul_left _ hbB)
  obtain ⟨q, rr, H4, h4, g4, n4, n5⟩ := long_loop (U0 := a * 2 ^ sh) K hK d (H0 := H1) (w := w1) (u := u1) (out := o) (r := r) (lo2 := H2.size) (sh := sh) o1.arr s1 l1 hb2 (by omega) (show m < 40000 by omega) hsh31 hv1' hv2' hnorm hrlt g2.size m K H3 us (List.replicate m 0) (Nat.le_refl _) (by omega) (Frame.trans g2 g3) (by omega) s2 (wr.fr g3) o3 (by simp) (small_zeros m) (fun i hi => by simp [hi]) htop (by rw [val_zeros, Nat.mul_zero, Nat.add_zero, v2])
  have hp : 0 < 2 ^ sh := Nat.pow_pos (by decide)
  rw [v1, Nat.mul_div_mul_right _ _ hp] at n4
  rw [v1, Nat.mul_mod_mul_right, Nat.mul_div_cancel _ hp] at n5
  refine ⟨q, rr, H4, ?_, Frame.trans g1 g4, n4, n5⟩
  rw [long_run]
  have es1 : ∀ k, slow.sub (i64 n) (.int .i64 1) k = k (i64 (n - 1)) := fun k => n_subi k (b := 1) (by omega) (by omega)
  have es2 : ∀ k, slow.sub (i64 (la + 1)) (i64 n) k = k (i64 m) := fun k => by rw [n_subi k (by omega) (by omega), hm]
  have es3 : ∀ k, slow.sub (i64 m) (.int .i64 1) k = k (.int .i64 ((m : Int) - 1)) := fun k => z_sub64 (by omega) (by omega) k
  have el1 : ∀ k, slow.len y k = k (i64 n) := fun k => by rw [blen hy, hn]
  have el2 : ∀ k, slow.len x k = k (i64 la) := fun k => by rw [blen hx, hla]
  have el3 : ∀ k, slow.len u1 k = k (i64 (la + 1)) := fun k => by rw [blen o2.arr, l2]
  have elz := lz_ok K d H (show tb < 4294967296 from htbB)
  rw [hsh] at elz
  simp only [f70, y_bbox, y_lfld, z_lld0, el1, es1, hy.load (limbs_get htb'), elz, z_call, h1, el2, u_inc (show la < 1000000 by omega), h2, el3, es2, h3, es3]
  exact h4
theorem div_ok (K : Nat) (hK : 200000 < K) (d : Nat) (H : Heap) {v w : SV} {a b : Nat} (hv : IsNat H v a) (hw : IsNat H w b) (hb : 0 < b) (ha : (digs a).length < 10000) :
    ∃ q r H', runQ wk tab slow K (d + 4) 68 [v, w] H = some (.tuple [q, r, .int .i64 0], H') ∧ Frame H H' ∧ IsNat H' q (a / b) ∧ IsNat H' r (a % b) := by
  have hcmp := cmp_ok K (d + 2) H hv hw (by omega) (by omega)
  rw [show d + 2 + 1 = d + 3 from rfl] at hcmp
  have hv0 := hv
  have hw0 := hw
  obtain ⟨x, rfl, hx, hxf⟩ := hv
  obtain ⟨y, rfl, hy, hyf⟩ := hw
  have hne : digs b ≠ [] := fun e => by have := digs_nil.1 e; omega
  have hpos := List.length_pos_iff.2 hne
  show ∃ q r H', f68 slow K (runQ wk tab slow K (d + 3)) (.agg [x]) (.agg [y]) H = _ ∧ _
  have e1 : ∀ k, slow.eql (i64 (digs b).length) (.int .i64 0) k = k (.bool false) := fun k => by rw [show (SV.int .i64 0) = i64 0 from rfl, n_eql, decide_eq_false (by omega)]
  simp only [f68, z_bbox, z_lfld, z_lld0, blen hy, e1, z_cond, cond_false, z_lload1, hcmp, z_call, z_lss]
  by_cases hlt : a < b
  · have hc : decide (cmpN a b < 0) = true := by
      unfold cmpN
      rw [if_pos hlt]
      rfl
    rw [hc]
    simp only [cond_true, z_build0, z_bst1, z_resc1]
    refine ⟨.agg [.slice nilSl], .agg [x], H, rfl, Fr.refl _ _, ?_, ?_⟩
    · rw [Nat.div_eq_of_lt hlt]
      exact ⟨_, rfl, by rw [digs_zero]; exact Arr.nil _, rfl⟩
    · rw [Nat.mod_eq_of_lt hlt]
      exact ⟨x, rfl, hx, hxf⟩
  · have hc : decide (cmpN a b < 0) = false := by
      unfold cmpN
      rw [if_neg hlt]
      split <;> rfl
    rw [hc]
    by_cases h1 : (digs b).length = 1
    · obtain ⟨b', hb'⟩ : ∃ b', digs b = [b'] := List.length_eq_one_iff.1 h1
      have hbb : b' = b := by
        have := val_digs b
        rw [hb'] at this
        simpa [val] using this
      rw [hbb] at hb'
      have hB : b < B := digs_small b b (by rw [hb']; simp)
      have e2 : ∀ k, slow.eql (i64 (digs b).length) (.int .i64 1) k = k (.bool true) := fun k => by rw [h1, z_eql]; rfl
      have ha0 : digs a ≠ [] := fun e => by have := digs_nil.1 e; omega
      obtain ⟨u, H1, hu, ou, fu, _, _, _⟩ := (Own.nil H.size H).append (Nat.le_refl _) hx (by_ := 4) (roomy_small (by simp; omega))
      rw [List.nil_append] at ou
      obtain ⟨r, wr⟩ := ou.wr (by simpa using ha0)
      obtain ⟨H2, h2, w2, f2, _, _⟩ := short_ok K (d + 2) H1 hb hB (digs_small a) (by omega) (by omega) wr
      rw [show d + 2 + 1 = d + 3 from rfl, val_digs] at h2
      obtain ⟨s1, s2, _, s4⟩ := shortL_spec hb hB (digs_small a)
      obtain ⟨sl, h3, cu⟩ := cut_ok K (d + 2) H2 (ds := (shortL b (digs a)).1) w2.arr s4 ou.root (by rw [s1]; omega) (by rw [s1]; omega)
      rw [show d + 2 + 1 = d + 3 from rfl] at h3
      have hmB : a % b < B := Nat.lt_trans (Nat.mod_lt a hb) hB
      have hmB2 : a % b < 18446744073709551616 := Nat.lt_trans hmB (by unfold B; omega)
      obtain ⟨rv, H3, h4, f3, n3⟩ := of_ok K (by omega) (d + 1) H2 hmB2
      rw [show d + 1 + 2 = d + 3 from rfl] at h4
      have hq := cu.isNat
      rw [(shortL_val hb hB (digs_small a)).1, val_digs] at hq
      have n3' := n3
      obtain ⟨z, rfl, hz, hzf⟩ := n3
      have hld : ∀ k, slow.idx 1 y (.int .i64 0) (fun p => slow.load 1 false p H1 k) = k (u32 b) := fun k => (hy.fr fu).load (i := 0) (limbs_get (by rw [hb']; rfl)) .i64 k
      refine ⟨.agg [sl], .agg [z], H3, ?_, Frame.trans (Fr.trans fu f2) f3, hq.fr f3, n3'⟩
      simp only [cond_false, e2, z_cond, cond_true, z_lfld, z_lld0, hu, hld, h2, z_call, h3, n_conv64 _ .u32 (a % b) hmB2, h4, z_bst1, z_resc1]
    · have e2 : ∀ k, slow.eql (i64 (digs b).length) (.int .i64 1) k = k (.bool false) := fun k => by rw [show (SV.int .i64 1) = i64 1 from rfl, n_eql, decide_eq_false h1]
      obtain ⟨q, r, H1, h2, g1, n1, n2⟩ := long_ok K hK d H hv0 hw0 (by omega) (by omega) (by omega)
      have n1' := n1
      have n2' := n2
      obtain ⟨q', rfl, _, _⟩ := n1
      obtain ⟨r', rfl, _, _⟩ := n2
      refine ⟨.agg [q'], .agg [r'], H1, ?_, g1, n1', n2'⟩
      simp only [cond_false, e2, z_cond, z_lload1, h2, z_call, z_ext0, z_ext1, z_bst1, z_resc1]
end Go.Sh.Of
namespace Go.Sh.Of
open Go

theorem sub_run (K d : Nat) (H : Heap) (v w : SV) : runQ wk tab slow K (d + 6) 55 [v, w] H = f55 slow K (runQ wk tab slow K (d + 5)) v w H := Eq.trans rfl rfl
theorem zsub_ok (K : Nat) (hK : 1000 < K) (d : Nat) (H : Heap) {v w : SV} {a b : Int} (hv : IsInt H v a) (hw : IsInt H w b) (ha : a.natAbs < 2 ^ 4096) (hb : b.natAbs < 2 ^ 4096) :
    ∃ r H', runQ wk tab slow K (d + 6) 55 [v, w] H = some (.tuple [r, .int .i64 (errZ (a - b))], H') ∧ Frame H H' ∧ IsInt H' r (fitZ (a - b)) := by
  obtain ⟨nb, h1, n1⟩ := zneg_ok K (d + 1) H hw hb
  rw [show d + 1 + 4 = d + 5 from rfl] at h1
  obtain ⟨r, H1, h2, g2, n2⟩ := zadd_ok K hK d H hv n1 ha (by rw [Int.natAbs_neg]; exact hb)
  rw [← Int.sub_eq_add_neg] at h2 n2
  have n2' := n2
  obtain ⟨sl, rfl, _, _⟩ := n2
  obtain ⟨x, rfl, _, _⟩ := hv
  obtain ⟨y, rfl, _, _⟩ := hw
  refine ⟨_, H1, ?_, g2, n2'⟩
  rw [sub_run]
  simp only [f55, z_bbox, z_lload2, h1, z_call, h2, z_ext0, z_ext1, z_bst2, z_resc2, z_rest_int]
/-- The quotient of sizes, as whole numbers are divided. -/
theorem quo_sizes {a b : Int} (hb : b ≠ 0) : (if a < 0 ∧ a.natAbs % b.natAbs > 0 then a.natAbs / b.natAbs + 1 else a.natAbs / b.natAbs) = (a / b).natAbs ∧ ((if a < 0 ∧ a.natAbs % b.natAbs > 0 then b.natAbs - a.natAbs % b.natAbs else a.natAbs % b.natAbs : Nat) : Int) = a % b := by
  obtain ⟨m, hm⟩ : ∃ m, b.natAbs = m := ⟨_, rfl⟩
  have hm0 : 0 < m := by omega
  have hbm : b = m ∨ b = -(m : Int) := by omega
  have key : ∀ (q : Int) (r : Nat), a = m * q + r → r < m → a / b = (if 0 < b then q else -q) ∧ a % b = r := fun q r h1 h2 => by
    rcases hbm with rfl | rfl
    · have e1 : a / (m : Int) = q := by
        rw [h1, Int.add_comm, Int.add_mul_ediv_left _ _ (by omega), Int.ediv_eq_zero_of_lt (by omega) (by omega), Int.zero_add]
      have e2 : a % (m : Int) = r := by
        rw [h1, Int.add_comm, Int.add_mul_emod_self_left, Int.emod_eq_of_lt (by omega) (by omega)]
      rw [if_pos (by omega)]
      exact ⟨e1, e2⟩
    · have e1 : a / (m : Int) = q := by
        rw [h1, Int.add_comm, Int.add_mul_ediv_left _ _ (by omega), Int.ediv_eq_zero_of_lt (by omega) (by omega), Int.zero_add]
      have e2 : a % (m : Int) = r := by
        rw [h1, Int.add_comm, Int.add_mul_emod_self_left, Int.emod_eq_of_lt (by omega) (by omega)]
      rw [if_neg (by omega), Int.ediv_neg, Int.emod_neg]
      exact ⟨by rw [e1], e2⟩
  rw [hm]
  have hd := Nat.div_add_mod a.natAbs m
  have hl := Nat.mod_lt a.natAbs hm0
  generalize a.natAbs / m = Q at *
  generalize a.natAbs % m = R at *
  by_cases ha : a < 0
  · by_cases hr : R > 0
    · have e : a = m * (-((Q : Nat) : Int) - 1) + ((m - R : Nat) : Int) := by
        have h3 : ((m * (Q) + R : Nat) : Int) = (a.natAbs : Int) := by rw [hd]
        rw [Int.natCast_add, Int.natCast_mul] at h3
        rw [Int.mul_sub, Int.mul_neg, Int.mul_one]
        generalize (m : Int) * ((Q : Nat) : Int) = t at *
        omega
      obtain ⟨k1, k2⟩ := key _ _ e (by omega)
      rw [if_pos ⟨ha, hr⟩, if_pos ⟨ha, hr⟩, k1, k2]
      refine ⟨?_, rfl⟩
      split <;> omega
    · have hr0 : R = 0 := by omega
      have e : a = m * (-((Q : Nat) : Int)) + ((0 : Nat) : Int) := by
        have h3 : ((m * (Q) + R : Nat) : Int) = (a.natAbs : Int) := by rw [hd]
        rw [Int.natCast_add, Int.natCast_mul] at h3
        rw [Int.mul_neg]
        generalize (m : Int) * ((Q : Nat) : Int) = t at *
        omega
      obtain ⟨k1, k2⟩ := key _ _ e hm0
      rw [if_neg (by omega), if_neg (by omega), k1, k2, hr0]
      refine ⟨?_, rfl⟩
      split <;> omega
  · have e : a = m * ((Q : Nat) : Int) + ((R : Nat) : Int) := by
      have h3 : ((m * (Q) + R : Nat) : Int) = (a.natAbs : Int) := by rw [hd]
      rw [Int.natCast_add, Int.natCast_mul] at h3
      omega
    obtain ⟨k1, k2⟩ := key _ _ e hl
    rw [if_neg (by omega), if_neg (by omega), k1, k2]
    refine ⟨?_, rfl⟩
    split <;> omega
theorem sgn_quo {a b : Int} (hb : b ≠ 0) : sgn (decide (a < 0) != decide (b < 0)) (a / b).natAbs = a / b := by
  obtain ⟨m, hm⟩ : ∃ m, b.natAbs = m := ⟨_, rfl⟩
  have hm0 : 0 < (m : Int) := by omega
  have hbm : b = m ∨ b = -(m : Int) := by omega
  have hnn : 0 ≤ a → 0 ≤ a / (m : Int) := fun h => Int.ediv_nonneg h (by omega)
  have hnp : a < 0 → a / (m : Int) < 0 := fun h => Int.ediv_neg_of_neg_of_pos h hm0
  unfold sgn
  rcases hbm with rfl | rfl
  · have hbn : ¬ (m : Int) < 0 := by omega
    by_cases ha : a < 0
    · have := hnp ha
      simp only [decide_eq_true ha, decide_eq_false hbn]
      rw [if_pos (by decide)]
      omega
    · have := hnn (by omega)
      simp only [decide_eq_false ha, decide_eq_false hbn]
      rw [if_neg (by decide)]
      omega
  · have hbn : -(m : Int) < 0 := by omega
    rw [Int.ediv_neg]
    by_cases ha : a < 0
    · have := hnp ha
      simp only [decide_eq_true ha, decide_eq_true hbn]
      rw [if_neg (by decide)]
      omega
    · have := hnn (by omega)
      simp only [decide_eq_false ha, decide_eq_true hbn]
      rw [if_pos (by decide)]
      omega
theorem one_big : 1 < 2 ^ 4096 := Nat.one_lt_two_pow (n := 4096) (by decide)
theorem quo_run (K d : Nat) (H : Heap) (v w : SV) : runQ wk tab slow K (d + 6) 65 [v, w] H = f65 slow K (runQ wk tab slow K (d + 5)) v w H := Eq.trans rfl rfl
theorem dg_len {n : Nat} (h : n < 2 ^ 4096) : (digs n).length < 10000 := by
  have := digs_len h
  omega
theorem zquo_ok (K : Nat) (hK : 200000 < K) (d : Nat) (H : Heap) {v w : SV} {a b : Int} (hv : IsInt H v a) (hw : IsInt H w b) (hb0 : b ≠ 0) (ha : a.natAbs < 2 ^ 4096) (hb : b.natAbs < 2 ^ 4096) :
    ∃ q r H', runQ wk tab slow K (d + 6) 65 [v, w] H = some (.tuple [q, r, .int .i64 0], H') ∧ Frame H H' ∧ IsInt H' q (a / b) ∧ IsInt H' r (a % b) := by
  have hv0 := hv
  have hw0 := hw
  obtain ⟨x, rfl, hx, hxf⟩ := hv
  obtain ⟨y, rfl, hy, hyf⟩ := hw
  have nx : IsNat H (.agg [x]) a.natAbs := ⟨x, rfl, hx, hxf⟩
  have ny : IsNat H (.agg [y]) b.natAbs := ⟨y, rfl, hy, hyf⟩
  have hbp : 0 < b.natAbs := by omega
  obtain ⟨q, r, H1, h1, g1, n1, n2⟩ := div_ok K hK (d + 1) H nx ny hbp (dg_len ha)
  rw [show d + 1 + 4 = d + 5 from rfl] at h1
  obtain ⟨z1, z2⟩ := quo_sizes (a := a) hb0
  have hqlt : a.natAbs / b.natAbs < 2 ^ 4096 := Nat.lt_of_le_of_lt (Nat.div_le_self _ _) ha
  have hrlt : a.natAbs % b.natAbs < 2 ^ 4096 := Nat.lt_trans (Nat.mod_lt _ hbp) hb
  -- what comes behind
  have last : ∀ (q' r' : SV) (Q R : Nat) (H2 : Heap), Frame H H2 → IsNat H2 q' Q → IsNat H2 r' R → Q < 2 ^ 4096 → R < 2 ^ 4096 → Q = (a / b).natAbs → (R : Int) = a % b → ∃ qq rr H', f65_j3 slow K (runQ wk tab slow K (d + 5)) (.box [.bool (decide (a < 0)), x]) (.box [.bool (decide (b < 0)), y]) (.box [.bool false, .slice nilSl]) (.box [.bool false, .slice nilSl]) (.box [match q' with | .agg [t] => t | t => t]) (.box [match r' with | .agg [t] => t | t => t]) H2 = some (.tuple [qq, rr, .int .i64 0], H') ∧ Frame H H' ∧ IsInt H' qq (a / b) ∧ IsInt H' rr (a % b) := fun q' r' Q R H2 hf nq nr hQ hR eQ eR => by
    obtain ⟨m1, k1, i1⟩ := zmake_ok K (d + 2) H2 (decide (a < 0) != decide (b < 0)) nq (by have := dg_len hQ; omega)
    rw [show d + 2 + 3 = d + 5 from rfl] at k1
    obtain ⟨m2, k2, i2⟩ := zmake_ok K (d + 2) H2 false nr (by have := dg_len hR; omega)
    rw [show d + 2 + 3 = d + 5 from rfl] at k2
    rw [eQ, sgn_quo hb0] at i1
    have e2 : sgn false R = a % b := by rw [← eR]; rfl
    rw [e2] at i2
    have i1' := i1
    have i2' := i2
    obtain ⟨t1, rfl, _, _⟩ := nq
    obtain ⟨t2, rfl, _, _⟩ := nr
    obtain ⟨s1, rfl, _, _⟩ := i1
    obtain ⟨s2, rfl, _, _⟩ := i2
    refine ⟨_, _, H2, ?_, hf, i1', i2'⟩
    have hne : ∀ k, slow.b_neq (.bool (decide (a < 0))) (.bool (decide (b < 0))) k = k (.bool (decide (a < 0) != decide (b < 0))) := fun k => z_bneq _ _ k
    simp only [f65_j3, z_lfld, z_lld0, hne, z_lload1, k1, z_call, k2, z_bst2, z_resc2]
  rw [quo_run]
  have n1' := n1
  have n2' := n2
  obtain ⟨q1, rfl, _, _⟩ := n1
  obtain ⟨r1, rfl, _, _⟩ := n2
  simp only [f65, z_bbox, z_lfld, z_lldn, h1, z_call, z_ext0, z_ext1, z_ext2, z_bst1, z_neq, bne_self_eq_false, z_cond, cond_false, z_lld0, z_guard]
  by_cases han : a < 0
  · have hbits := bits_ok K (d + 3) H1 n2' (by have := dg_len hrlt; omega)
    rw [show d + 3 + 2 = d + 5 from rfl] at hbits
    have hblp : bl (a.natAbs % b.natAbs) > 0 ↔ a.natAbs % b.natAbs > 0 := by
      have := bl_le (n := a.natAbs % b.natAbs) (k := 0)
      rw [Nat.pow_zero] at this
      omega
    have hgt : ∀ k, slow.gtr (i64 (bl (a.natAbs % b.natAbs))) (.int .i64 0) k = k (.bool (decide (a.natAbs % b.natAbs > 0))) := fun k => by rw [show (SV.int .i64 0) = i64 0 from rfl, n_gtr, decide_eq_decide.2 hblp]
    simp only [decide_eq_true han, cond_true, z_lload1, hbits, z_call, hgt]
    by_cases hr : a.natAbs % b.natAbs > 0
    · rw [if_pos ⟨han, hr⟩] at z1 z2
      obtain ⟨o1, H2, h2, g2, m2⟩ := of_ok K (by omega) (d + 3) H1 (n := 1) (by omega)
      rw [show d + 3 + 2 = d + 5 from rfl] at h2
      have hfit : a.natAbs / b.natAbs + 1 < 2 ^ 4096 := by
        have hb2 : 2 ≤ b.natAbs := Decidable.byContradiction fun h => by
          have : b.natAbs = 1 := by omega
          rw [this, Nat.mod_one] at hr
          omega
        have h5 : a.natAbs / b.natAbs ≤ a.natAbs / 2 := Nat.div_le_div_left hb2 (by decide)
        have h6 : 0 < a.natAbs := by omega
        generalize 2 ^ 4096 = N at *
        omega
      obtain ⟨o2, H3, h3, g3, m3⟩ := add_ok K (d + 1) H2 (n1'.fr g2) m2 (by omega) hqlt one_big
      rw [show d + 1 + 4 = d + 5 from rfl] at h3
      rw [if_pos hfit] at m3
      obtain ⟨o3, H4, h4, g4, m4⟩ := sub_ok K (d + 2) H3 (((ny.fr g1).fr g2).fr g3) ((n2'.fr g2).fr g3) (by omega) hb
      rw [show d + 2 + 3 = d + 5 from rfl] at h4
      obtain ⟨qq, rr, H5, h5, g5⟩ := last o2 o3 _ _ H4 (Frame.trans g1 (Frame.trans g2 (Frame.trans g3 g4))) (m3.fr g4) m4 hfit (Nat.lt_of_le_of_lt (Nat.sub_le _ _) hb) z1 z2
      obtain ⟨p2, rfl, _, _⟩ := m3
      obtain ⟨p3, rfl, _, _⟩ := m4
      refine ⟨qq, rr, H5, ?_, g5⟩
      rw [show (u64 1) = (SV.int .u64 1) from rfl] at h2
      rw [decide_eq_true han] at h5
      simp only [decide_eq_true hr, f65_j2, z_cond, cond_true, z_lload1, h2, z_call, h3, z_ext0, z_ext1, z_bst1, z_lfld, z_lldn, h4]
      exact h5
    · rw [if_neg (fun h => hr h.2)] at z1 z2
      obtain ⟨qq, rr, H5, h5, g5⟩ := last (.agg [q1]) (.agg [r1]) _ _ H1 g1 n1' n2' hqlt hrlt z1 z2
      refine ⟨qq, rr, H5, ?_, g5⟩
      rw [decide_eq_true han] at h5
      simp only [decide_eq_false hr, f65_j2, z_cond, cond_false]
      exact h5
  · rw [if_neg (fun h => han h.1)] at z1 z2
    obtain ⟨qq, rr, H5, h5, g5⟩ := last (.agg [q1]) (.agg [r1]) _ _ H1 g1 n1' n2' hqlt hrlt z1 z2
    refine ⟨qq, rr, H5, ?_, g5⟩
    rw [decide_eq_false han] at h5
    simp only [decide_eq_false han, cond_false, f65_j2, z_cond]
    exact h5
theorem exact_run (K d : Nat) (H : Heap) (v w : SV) : runQ wk tab slow K (d + 7) 56 [v, w] H = f56 slow K (runQ wk tab slow K (d + 6)) v w H := Eq.trans rfl rfl
theorem zexact_ok (K : Nat) (hK : 200000 < K) (d : Nat) (H : Heap) {v w : SV} {a b : Int} (hv : IsInt H v a) (hw : IsInt H w b) (hb0 : b ≠ 0) (hd : a % b = 0) (ha : a.natAbs < 2 ^ 4096) (hb : b.natAbs < 2 ^ 4096) :
    ∃ q H', runQ wk tab slow K (d + 7) 56 [v, w] H = some (.tuple [q, .int .i64 0], H') ∧ Frame H H' ∧ IsInt H' q (a / b) := by
  obtain ⟨q, r, H1, h1, g1, n1, n2⟩ := zquo_ok K hK d H hv hw hb0 ha hb
  rw [hd] at n2
  have hs := zsign_ok K (d + 3) H1 n2 (by decide +kernel)
  rw [show d + 3 + 3 = d + 6 from rfl] at hs
  have n1' := n1
  obtain ⟨q1, rfl, _, _⟩ := n1
  obtain ⟨r1, rfl, _, _⟩ := n2
  obtain ⟨x, rfl, _, _⟩ := hv
  obtain ⟨y, rfl, _, _⟩ := hw
  refine ⟨_, H1, ?_, g1, n1'⟩
  have e0 : signZ 0 = 0 := rfl
  rw [exact_run]
  simp only [f56, z_bbox, z_lload2, h1, z_call, z_ext0, z_ext1, z_ext2, z_bst2, z_neq, bne_self_eq_false, z_cond, cond_false, hs, e0, z_resc2]
end Go.Sh.Of

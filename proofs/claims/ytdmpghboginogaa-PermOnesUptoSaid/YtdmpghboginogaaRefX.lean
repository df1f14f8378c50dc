/- Contracts of the reference's layer 1: Small, Text. -/
import Derived.Test.YtdmpghboginogaaRefN
set_option linter.unusedVariables false
set_option linter.unusedSimpArgs false
namespace Go.Sh.Of
open Go

theorem rsm_loop (C : CallC) (K : Nat) (H : Heap) {v : SV} {ds : List Nat} (hv : Arr H v (rl ds)) (hs : RSmall ds) (hl : ds.length ≤ 4) : ∀ (n fuel : Nat), n ≤ ds.length → n < fuel →
    slow.loop3 (f45_l2 slow K C) fuel v (u64 (rval (ds.drop n))) (.int .i64 ((n : Int) - 1)) H = some (.tuple [u64 (rval ds), .bool true], H)
  | 0, fuel, hn, hf => by
    obtain ⟨fuel, rfl⟩ : ∃ m, fuel = m + 1 := ⟨fuel - 1, by omega⟩
    rw [z_loop3]
    have h0 : ¬ (((0 : Nat) : Int) - 1 ≥ 0) := by omega
    rw [List.drop_zero]
    simp only [f45_l2, z_geq, decide_eq_false h0, z_cond, cond_false, z_rest_int]
  | n + 1, fuel, hn, hf => by
    obtain ⟨fuel, rfl⟩ : ∃ m, fuel = m + 1 := ⟨fuel - 1, by omega⟩
    rw [z_loop3]
    have h0 : ((n + 1 : Nat) : Int) - 1 ≥ 0 := by omega
    have e : (((n + 1 : Nat) : Int) - 1) = (n : Int) := by omega
    obtain ⟨x, hx⟩ : ∃ x, ds[n]? = some x := ⟨_, List.getElem?_eq_getElem (by omega)⟩
    have hxD : x < 65536 := hs x (List.mem_of_getElem? hx)
    have hdx : ds.drop n = x :: ds.drop (n + 1) := List.drop_eq_getElem?_toList_append (l := ds) (i := n) ▸ by rw [hx]; rfl
    have hsd : RSmall (ds.drop (n + 1)) := fun q hq => hs q (List.mem_of_mem_drop hq)
    have hlt := rval_lt hsd
    have hle : D ^ (ds.drop (n + 1)).length ≤ D ^ 3 := Nat.pow_le_pow_right (by decide) (by simp; omega)
    have h3 : D ^ 3 = 281474976710656 := by decide
    have hR : rval (ds.drop n) = rval (ds.drop (n + 1)) * 65536 + x := by
      rw [hdx, rval, Nat.mul_comm (rval _) 65536, Nat.add_comm]; rfl
    have ih := rsm_loop C K H hv hs hl n fuel (by omega) (by omega)
    rw [hR] at ih
    simp only [f45_l2, z_geq, decide_eq_true h0, z_cond, cond_true]
    rw [show (SV.int .u64 65536) = u64 65536 from rfl, n_mul64 _ (by omega), e, hv.load (rl_get hx), n_conv64 _ .u32 x (by omega), n_add64 _ (by omega), z_sub64 (by omega) (by omega)]
    exact ih
theorem rsm_ok (K : Nat) (d : Nat) (H : Heap) {v : SV} {n : Nat} (hv : IsR H v n) (hl : (rdigs n).length ≤ 4) (hK : 10 < K) :
    runQ wk tab slow K (d + 1) 45 [v] H = some (.tuple [u64 n, .bool true], H) := by
  show f45 slow K (runQ wk tab slow K d) v H = _
  have h4 : ¬ ((rdigs n).length > 4) := by omega
  simp only [f45, rlen hv]
  rw [show (SV.int .i64 4) = i64 4 from rfl, n_gtr, decide_eq_false h4, z_cond, cond_false, z_sub64 (by omega) (by omega)]
  have := rsm_loop (runQ wk tab slow K d) K H hv (rdigs_small n) hl (rdigs n).length K (Nat.le_refl _) (by omega)
  rw [List.drop_length, rval_digs] at this
  exact this
theorem rtext_in (C : CallC) (K : Nat) {m : Nat} (q : SV) (k7 : SV → SV → Heap → Rs) (N : Nat) (hN : N < 1000000000) : ∀ (j i x fuel : Nat) (H : Heap) (pre : List Nat), i + j = 4 → j < fuel → x < 10 ^ j → IsR H q m → pre.length + (decLE (x + 10 ^ j * m)).length ≤ N →
    ∃ H' pre', slow.loop4 (f34_l4 slow K C k7) fuel (.str (pre.reverse.map chr)) q (u64 x) (i64 i) H = k7 q (.str (pre'.reverse.map chr)) H' ∧ Frame H H' ∧ pre' ++ decLE m = pre ++ decLE (x + 10 ^ j * m)
  | 0, i, x, fuel, H, pre, hij, hf, hx, hq, hlen => by
    obtain ⟨fuel, rfl⟩ : ∃ m, fuel = m + 1 := ⟨fuel - 1, by omega⟩
    have hx0 : x = 0 := by simpa using hx
    subst hx0
    have h4 : ¬ (i < 4) := by omega
    refine ⟨H, pre, ?_, Fr.refl _ _, by simp⟩
    rw [z_loop4]
    simp only [f34_l4]
    rw [show (SV.int .i64 4) = i64 4 from rfl, n_lss, decide_eq_false h4, z_guard, cond_false]
    simp only [f34_j5, z_cond, cond_false]
  | j + 1, i, x, fuel, H, pre, hij, hf, hx, hq, hlen => by
    obtain ⟨fuel, rfl⟩ : ∃ m, fuel = m + 1 := ⟨fuel - 1, by omega⟩
    have h4 : i < 4 := by omega
    have hxs : x < 10000 := Nat.lt_of_lt_of_le hx (Nat.pow_le_pow_right (n := 10) (by decide) (show j + 1 ≤ 4 by omega))
    by_cases h0 : m = 0 ∧ x = 0
    · obtain ⟨rfl, rfl⟩ := h0
      refine ⟨H, pre, ?_, Fr.refl _ _, by simp⟩
      have hl : ¬ ((rdigs 0).length > 0) := by rw [rdigs_zero]; simp
      have hz : ¬ (0 > 0) := by omega
      rw [z_loop4]
      simp only [f34_l4]
      rw [show (SV.int .i64 4) = i64 4 from rfl, n_lss, decide_eq_true h4, z_guard, cond_true, rlen hq, show (SV.int .i64 0) = i64 0 from rfl, n_gtr, decide_eq_false hl, z_guard, cond_false, show (SV.int .u64 0) = u64 0 from rfl, n_gtr, decide_eq_false hz]
      simp only [f34_j5, z_cond, cond_false]
    · have hP : x + 10 ^ (j + 1) * m = x + 10 * (10 ^ j * m) := by rw [Nat.pow_succ, Nat.mul_comm (10 ^ j) 10, Nat.mul_assoc]
      have hne : x + 10 ^ (j + 1) * m ≠ 0 := by
        intro e
        have h1 : x = 0 := by omega
        have h2 : 10 ^ (j + 1) * m = 0 := by omega
        rcases Nat.mul_eq_zero.1 h2 with h3 | h3
        · exact absurd h3 (Nat.ne_of_gt (Nat.pow_pos (by decide)))
        · exact h0 ⟨h3, h1⟩
      have hdl : decLE (x + 10 ^ (j + 1) * m) = x % 10 :: decLE (x / 10 + 10 ^ j * m) := by
        rw [decLE_pos hne, hP]
        rw [show (x + 10 * (10 ^ j * m)) % 10 = x % 10 by omega, show (x + 10 * (10 ^ j * m)) / 10 = x / 10 + 10 ^ j * m by omega]
      rw [hdl] at hlen
      have hd10 : x % 10 < 10 := Nat.mod_lt _ (by decide)
      obtain ⟨u, H1, hu, hou, hfu, _, _⟩ := z_lay1 (H := H) (lo := H.size) (Nat.le_refl _) (.int .u8 0) (x := u8 (48 + x % 10)) rfl
      have hpx : x / 10 < 10 ^ j := by
        rw [Nat.div_lt_iff_lt_mul (by decide), ← Nat.pow_succ]; exact hx
      rw [List.length_cons] at hlen
      obtain ⟨H2, pre', h5, f2, hp⟩ := rtext_in C K q k7 N hN j (i + 1) (x / 10) fuel H1 (pre ++ [x % 10]) (by omega) (by omega) hpx (hq.fr hfu) (by simp; omega)
      refine ⟨H2, pre', ?_, Frame.trans hfu f2, by rw [hp, hdl]; simp⟩
      have hs : [chr (x % 10)] ++ pre.reverse.map chr = (pre ++ [x % 10]).reverse.map chr := by simp
      have hm8 : (48 + x % 10) % 256 = 48 + x % 10 := Nat.mod_eq_of_lt (by omega)
      have hj : f34_j5 slow K C k7 (slow.loop4 (f34_l4 slow K C k7) fuel) (.str (pre.reverse.map chr)) q (u64 x) (i64 i) (.bool true) H = k7 q (.str (pre'.reverse.map chr)) H2 := by
        simp only [f34_j5, z_cond, cond_true]
        rw [show (SV.int .u64 10) = u64 10 from rfl, n_rem _ .u64 _ (by decide), show (SV.int .u64 48) = u64 48 from rfl, n_add64 _ (by omega), n_conv8, hm8, hu, z_str1 hou.arr hd10, z_sadd _ (by simp; omega), n_quo64 _ _ (by decide) (by omega), show (SV.int .i64 1) = i64 1 from rfl, n_addi _ (by omega), hs]
        exact h5
      rw [z_loop4]
      simp only [f34_l4]
      rw [show (SV.int .i64 4) = i64 4 from rfl, n_lss, decide_eq_true h4, z_guard, cond_true, rlen hq, show (SV.int .i64 0) = i64 0 from rfl, n_gtr]
      by_cases hm : (rdigs m).length > 0
      · rw [decide_eq_true hm, z_guard, cond_true]
        exact hj
      · have hx0 : x > 0 := by
          have : rdigs m = [] := List.length_eq_zero_iff.1 (by omega)
          have := rdigs_nil.1 this
          omega
        rw [decide_eq_false hm, z_guard, cond_false, show (SV.int .u64 0) = u64 0 from rfl, n_gtr, decide_eq_true hx0]
        exact hj
theorem rtext_out (K : Nat) (d : Nat) (N : Nat) (hN : N < 1000000000) (hK : 3000000 < K) {n : Nat} (hdec : (decLE n).length ≤ N) : ∀ (m fuel : Nat) (H : Heap) (v : SV) (pre : List Nat), (decLE m).length < fuel → IsR H v m → (rdigs m).length < 900000 → pre ++ decLE m = decLE n →
    ∃ H', slow.loop2 (f34_l2 slow K (runQ wk tab slow K (d + 4))) fuel v (.str (pre.reverse.map chr)) H = some (.str ((decLE n).reverse.map chr), H') ∧ Frame H H' := by
  intro m
  induction m using Nat.strongRecOn with
  | ind m ih =>
    intro fuel H v pre hf hv hl hpre
    obtain ⟨fuel, rfl⟩ : ∃ m, fuel = m + 1 := ⟨fuel - 1, by omega⟩
    rw [z_loop2]
    by_cases h0 : m = 0
    · subst h0
      rw [decLE_zero, List.append_nil] at hpre
      subst hpre
      have hz : ¬ ((rdigs 0).length > 0) := by rw [rdigs_zero]; simp
      refine ⟨H, ?_, Fr.refl _ _⟩
      simp only [f34_l2, rlen hv]
      rw [show (SV.int .i64 0) = i64 0 from rfl, n_gtr, decide_eq_false hz, z_cond, cond_false, z_rest_str]
    · have hpos : (rdigs m).length > 0 := List.length_pos_iff.2 fun e => h0 (rdigs_nil.1 e)
      obtain ⟨tv, H1, e1, f1, t1⟩ := rof_ok K (by omega) (d + 3) H (n := 10000) (by decide)
      have htl : (rdigs 10000).length ≤ 4 := rdigs_len64 (by decide)
      obtain ⟨qv, rv, H2, e2, f2, q2, r2⟩ := rdiv_ok K d H1 (hv.fr f1) t1 (by decide) hl (by omega) hK
      have hmod : m % 10000 < 10000 := Nat.mod_lt _ (by decide)
      have hrl : (rdigs (m % 10000)).length ≤ 4 := rdigs_len64 (by omega)
      have e3 := rsm_ok K (d + 3) H2 r2 hrl (by omega)
      have e10 : m % 10000 + 10 ^ 4 * (m / 10000) = m := Nat.mod_add_div m 10000
      obtain ⟨H3, pre', h5, f3, hp⟩ := rtext_in (runQ wk tab slow K (d + 4)) K qv (slow.loop2 (f34_l2 slow K (runQ wk tab slow K (d + 4))) fuel) N hN 4 0 (m % 10000) K H2 pre rfl (by omega) hmod q2 (by
        rw [e10, ← List.length_append, hpre]; exact hdec)
      rw [e10, hpre] at hp
      have hmlt : m / 10000 < m := Nat.div_lt_self (Nat.pos_of_ne_zero h0) (by decide)
      have hq : (decLE (m / 10000)).length < fuel := by
        have h1 := decLE_mono (show m / 10000 ≤ m / 10 by omega)
        rw [decLE_pos h0, List.length_cons] at hf
        omega
      have hql := rdigs_mono (Nat.le_of_lt hmlt)
      obtain ⟨H4, h6, f4⟩ := ih (m / 10000) hmlt fuel H3 qv pre' hq (q2.fr f3) (by omega) hp
      refine ⟨H4, ?_, Frame.trans f1 (Frame.trans f2 (Frame.trans f3 f4))⟩
      simp only [f34_l2, rlen hv]
      rw [show (SV.int .i64 0) = i64 0 from rfl, n_gtr, decide_eq_true hpos, z_cond, cond_true, show (SV.int .u64 10000) = u64 10000 from rfl, e1, z_call, e2, z_call, z_ext0, z_ext1, e3, z_call, z_ext0, z_ext1, h5]
      exact h6
theorem rtext_ok (K : Nat) (d : Nat) (H : Heap) {v : SV} {n : Nat} (hv : IsR H v n) (hK : 3000000 < K) (hd : (decLE n).length < 3000000) (hl : (rdigs n).length < 900000) :
    ∃ H', runQ wk tab slow K (d + 5) 34 [v] H = some (.str (dec n), H') ∧ Frame H H' := by
  show ∃ H', f34 slow K (runQ wk tab slow K (d + 4)) v H = _ ∧ _
  simp only [f34, rlen hv]
  rw [show (SV.int .i64 0) = i64 0 from rfl, n_eql]
  by_cases h0 : n = 0
  · subst h0
    refine ⟨H, ?_, Fr.refl _ _⟩
    rw [rdigs_zero]
    simp only [List.length_nil, decide_true, z_cond, cond_true]
    rfl
  · have hne : ¬ ((rdigs n).length = 0) := fun e => h0 (rdigs_nil.1 (List.length_eq_zero_iff.1 e))
    rw [decide_eq_false hne, z_cond, cond_false]
    obtain ⟨H1, h1, f1⟩ := rtext_out K d (decLE n).length (by omega) hK (Nat.le_refl _) n K H v [] (by omega) hv hl (by simp)
    refine ⟨H1, ?_, f1⟩
    have e : dec n = (decLE n).reverse.map chr := by rw [dec, if_neg h0]
    rw [e]
    exact h1
end Go.Sh.Of

/- Contracts of the reference's layer 1: Add, Bits, Long, Digits, Parse; of layer 5: Parse. -/
import Derived.Test.YtdibokcaoefeaaaRefC
import Derived.Test.YtdibokcaoefeaaaNatE
set_option linter.unusedVariables false
set_option linter.unusedSimpArgs false
namespace Go.Sh.Of
open Go

theorem rval_drop (xs : List Nat) (i : Nat) : rval (xs.drop i) = xs.getD i 0 + D * rval (xs.drop (i + 1)) := by
  by_cases h : i < xs.length
  · have e : xs.drop i = xs[i] :: xs.drop (i + 1) := List.drop_eq_getElem_cons h
    rw [e, rval]
    simp [List.getD, h]
  · rw [List.drop_of_length_le (by omega), List.drop_of_length_le (by omega)]
    simp [List.getD, h, rval]
theorem rget_small {xs : List Nat} (h : RSmall xs) (i : Nat) : xs.getD i 0 < 65536 := by
  by_cases hi : i < xs.length
  · have := h xs[i] (List.getElem_mem hi)
    simp only [List.getD, List.getElem?_eq_getElem hi, Option.getD_some]
    exact this
  · simp only [List.getD, List.getElem?_eq_none (show xs.length ≤ i by omega), Option.getD_none]
    omega
theorem radd_loop (K : Nat) (d : Nat) {H0 : Heap} {v w : SV} {xs ys : List Nat} (hv : Arr H0 v (rl xs)) (hw : Arr H0 w (rl ys)) (hxs : RSmall xs) (hys : RSmall ys) (N : Nat) (hN : N < 2000000) (hxl : xs.length ≤ N) (hyl : ys.length ≤ N) (hK : N + 2 < K) {S : Nat} : ∀ (m i fuel c : Nat) (H : Heap) (o : SV) (res : List Nat), i + m = N + 1 → m < fuel → c ≤ 1 → (m = 0 → c = 0) → Frame H0 H → Own H0.size H o (rl res) → res.length = i → RSmall res → rval res + D ^ i * (c + rval (xs.drop i) + rval (ys.drop i)) = S →
    ∃ r H', slow.loop5 (f75_l1 slow K (runQ wk tab slow K (d + 1))) fuel v w o (u32 c) (i64 i) H = some (r, H') ∧ Frame H0 H' ∧ IsR H' r S := by
  intro m
  induction m with
  | zero =>
    intro i fuel c H o res him hf hc hc0 hfr ho hrl hrs hS
    obtain ⟨fuel, rfl⟩ : ∃ m, fuel = m + 1 := ⟨fuel - 1, by omega⟩
    have hx : ¬ i < xs.length := by omega
    have hy : ¬ i < ys.length := by omega
    have hcz := hc0 rfl
    subst hcz
    have h00 : ¬ (0 : Nat) > 0 := by omega
    rw [List.drop_of_length_le (by omega), List.drop_of_length_le (by omega)] at hS
    simp only [rval, Nat.add_zero, Nat.mul_zero] at hS
    obtain ⟨s, h2, hr, _⟩ := rcut_ok K d H (ds := res) ho.arr hrs (by omega) (by omega)
    rw [hS] at hr
    refine ⟨_, H, ?_, hfr, hr⟩
    rw [z_loop5]
    simp only [f75_l1, rlen (hv.fr hfr), rlen (hw.fr hfr), n_lss, decide_eq_false hx, decide_eq_false hy, z_guard, cond_false]
    rw [show (SV.int .u32 0) = u32 0 from rfl, n_gtr, decide_eq_false h00]
    simp only [f75_j2, z_cond, cond_false, h2, z_call]
    rw [z_rest (Arr.good hr)]
  | succ m ih =>
    intro i fuel c H o res him hf hc hc0 hfr ho hrl hrs hS
    obtain ⟨fuel, rfl⟩ : ∃ m, fuel = m + 1 := ⟨fuel - 1, by omega⟩
    have hvH := hv.fr hfr
    have hwH := hw.fr hfr
    have hxi := rget_small hxs i
    have hyi := rget_small hys i
    by_cases hgo : i < xs.length ∨ i < ys.length ∨ c > 0
    · -- one digit more
      generalize hs : c + xs.getD i 0 + ys.getD i 0 = s
      have hs1 : s ≤ 131071 := by omega
      obtain ⟨o', H1, hp, ho1, f1, _⟩ := push1 ho hfr.size (.int .u32 0) (x := u32 (s % 65536)) rfl (by_ := 4) (roomy_small (by simp; omega))
      have e1 : rl res ++ [u32 (s % 65536)] = rl (res ++ [s % 65536]) := by simp [rl]
      rw [e1] at ho1
      have hnext : (m = 0 → s / 65536 = 0) := fun hm => by
        have hiN : i = N := by omega
        have hx : ¬ i < xs.length := by omega
        have hy : ¬ i < ys.length := by omega
        have e1 : xs.getD i 0 = 0 := by simp [List.getD, hx]
        have e2 : ys.getD i 0 = 0 := by simp [List.getD, hy]
        omega
      obtain ⟨r, H2, h2, f2, hr⟩ := ih (i + 1) fuel (s / 65536) H1 o' (res ++ [s % 65536]) (by omega) (by omega) (by omega) hnext (Fr.trans hfr f1) ho1 (by simp [hrl]) (fun x hx => by
        rcases List.mem_append.1 hx with hx | hx
        · exact hrs x hx
        · rw [List.mem_singleton.1 hx]; exact Nat.mod_lt _ (by decide)) (by
        rw [rval_append, hrl, ← hS, rval_drop xs i, rval_drop ys i, Nat.pow_succ]
        simp only [rval, Nat.mul_zero, Nat.add_zero]
        have hdm := Nat.mod_add_div s 65536
        rw [Nat.add_assoc, Nat.mul_assoc, ← Nat.mul_add]
        congr 2
        show s % 65536 + D * (s / 65536 + rval (xs.drop (i + 1)) + rval (ys.drop (i + 1))) = _
        rw [show c + (xs.getD i 0 + D * rval (xs.drop (i + 1))) + (ys.getD i 0 + D * rval (ys.drop (i + 1))) = s + (D * rval (xs.drop (i + 1)) + D * rval (ys.drop (i + 1))) by omega, Nat.mul_add, Nat.mul_add]
        have hD : D * (s / 65536) = 65536 * (s / 65536) := rfl
        omega)
      have hj5 : f75_j5 slow K (runQ wk tab slow K (d + 1)) (slow.loop5 (f75_l1 slow K (runQ wk tab slow K (d + 1))) fuel) v w o (i64 i) (u32 s) H = some (r, H2) := by
        simp only [f75_j5]
        rw [show (SV.int .u32 65536) = u32 65536 from rfl, n_rem _ .u32 s (by decide), hp, n_quo32 _ _ (by decide) (by omega), show (SV.int .i64 1) = i64 1 from rfl, n_addi _ (by omega)]
        exact h2
      have hj4 : f75_j4 slow K (runQ wk tab slow K (d + 1)) (slow.loop5 (f75_l1 slow K (runQ wk tab slow K (d + 1))) fuel) v w o (i64 i) (u32 (c + xs.getD i 0)) H = some (r, H2) := by
        simp only [f75_j4, rlen hwH, n_lss]
        by_cases hy : i < ys.length
        · have hg : ys[i]? = some (ys.getD i 0) := by simp [List.getD, hy]
          rw [decide_eq_true hy, z_cond, cond_true, hwH.load (rl_get hg), n_add32, Nat.mod_eq_of_lt (by omega), hs]
          exact hj5
        · have e2 : ys.getD i 0 = 0 := by simp [List.getD, hy]
          rw [decide_eq_false hy, z_cond, cond_false, show c + xs.getD i 0 = s by omega]
          exact hj5
      have hj2 : f75_j2 slow K (runQ wk tab slow K (d + 1)) (slow.loop5 (f75_l1 slow K (runQ wk tab slow K (d + 1))) fuel) v w o (u32 c) (i64 i) (.bool true) H = some (r, H2) := by
        simp only [f75_j2, z_cond, cond_true, rlen hvH, n_lss]
        by_cases hx : i < xs.length
        · have hg : xs[i]? = some (xs.getD i 0) := by simp [List.getD, hx]
          rw [decide_eq_true hx, cond_true, hvH.load (rl_get hg), n_add32, Nat.mod_eq_of_lt (by omega)]
          exact hj4
        · have e2 : xs.getD i 0 = 0 := by simp [List.getD, hx]
          rw [e2, Nat.add_zero] at hj4
          rw [decide_eq_false hx, cond_false]
          exact hj4
      refine ⟨r, H2, ?_, f2, hr⟩
      rw [z_loop5]
      simp only [f75_l1, rlen hvH, rlen hwH, n_lss, z_guard]
      by_cases hx : i < xs.length
      · rw [decide_eq_true hx, cond_true, hj2]
      · rw [decide_eq_false hx, cond_false]
        by_cases hy : i < ys.length
        · rw [decide_eq_true hy, cond_true, hj2]
        · have hcp : c > 0 := by omega
          rw [decide_eq_false hy, cond_false, show (SV.int .u32 0) = u32 0 from rfl, n_gtr, decide_eq_true hcp, hj2]
    · have hx : ¬ i < xs.length := fun h => hgo (.inl h)
      have hy : ¬ i < ys.length := fun h => hgo (.inr (.inl h))
      have hcz : c = 0 := by
        have : ¬ c > 0 := fun h => hgo (.inr (.inr h))
        omega
      subst hcz
      have h00 : ¬ (0 : Nat) > 0 := by omega
      rw [List.drop_of_length_le (by omega), List.drop_of_length_le (by omega)] at hS
      simp only [rval, Nat.add_zero, Nat.mul_zero] at hS
      obtain ⟨s, h2, hr, _⟩ := rcut_ok K d H (ds := res) ho.arr hrs (by omega) (by omega)
      rw [hS] at hr
      refine ⟨_, H, ?_, hfr, hr⟩
      rw [z_loop5]
      simp only [f75_l1, rlen hvH, rlen hwH, n_lss, decide_eq_false hx, decide_eq_false hy, z_guard, cond_false]
      rw [show (SV.int .u32 0) = u32 0 from rfl, n_gtr, decide_eq_false h00]
      simp only [f75_j2, z_cond, cond_false, h2, z_call]
      rw [z_rest (Arr.good hr)]
/-- Add. -/
theorem radd_ok (K : Nat) (d : Nat) (H : Heap) {v w : SV} {a b : Nat} (hx : IsR H v a) (hy : IsR H w b) (hla : (rdigs a).length < 900000) (hlb : (rdigs b).length < 900000) (hK : 3000000 < K) :
    ∃ r H', runQ wk tab slow K (d + 2) 75 [v, w] H = some (r, H') ∧ Frame H H' ∧ IsR H' r (a + b) := by
  show ∃ r H', f75 slow K (runQ wk tab slow K (d + 1)) v w H = _ ∧ _
  exact radd_loop K d (H0 := H) hx hy (rdigs_small a) (rdigs_small b) ((rdigs a).length + (rdigs b).length) (by omega) (by omega) (by omega) (by omega) ((rdigs a).length + (rdigs b).length + 1) 0 K 0 H (.slice nilSl) [] (by omega) (by omega) (by omega) (by omega) (Fr.refl _ _) (Own.nil _ _) rfl (fun x hx => by cases hx) (by simp [rval, rval_digs])
/-! ### Bits, Long -/
theorem bl_half {d : Nat} (h : d > 0) : bl d = bl (d / 2) + 1 := by
  by_cases h1 : d = 1
  · subst h1; rfl
  · have h2 : bl d = 1 + bl (d / 2) := bl_shift (k := 1) (show 2 ≤ d by omega)
    omega
theorem rbits_loop (C : CallC) (K : Nat) (H : Heap) : ∀ (d n fuel : Nat), d < fuel → n + d < 9000000000000000000 → d < 4294967296 → slow.loop2 (f78_l2 slow K C) fuel (i64 n) (u32 d) H = some (i64 (n + bl d), H) := by
  intro d
  induction d using Nat.strongRecOn with
  | ind d ih =>
    intro n fuel hf hn hd
    obtain ⟨fuel, rfl⟩ : ∃ m, fuel = m + 1 := ⟨fuel - 1, by omega⟩
    rw [z_loop2]
    simp only [f78_l2]
    rw [show (SV.int .u32 0) = u32 0 from rfl, n_gtr, z_cond]
    by_cases h : d > 0
    · rw [decide_eq_true h, cond_true, show (SV.int .i64 1) = i64 1 from rfl, n_addi _ (by omega), show (SV.int .u32 2) = u32 2 from rfl, n_quo32 _ _ (by decide) hd, ih (d / 2) (by omega) (n + 1) fuel (by omega) (by omega) (by omega), bl_half h]
      rw [show n + 1 + bl (d / 2) = n + (bl (d / 2) + 1) by omega]
    · have h0 : d = 0 := by omega
      subst h0
      rw [decide_eq_false h, cond_false, z_rest_int]
      rfl
theorem rbl_digs {n : Nat} (h : n ≠ 0) : ∃ d, (rdigs n).getLast? = some d ∧ d ≠ 0 ∧ d < D ∧ bl n = 16 * ((rdigs n).length - 1) + bl d := by
  induction n using Nat.strongRecOn with
  | ind n ih =>
    rw [rdigs_pos h]
    by_cases h0 : n / D = 0
    · rw [h0, rdigs_zero]
      have hlt : n < D := (Nat.div_eq_zero_iff.1 h0).resolve_left (by decide)
      refine ⟨n % D, rfl, ?_, Nat.mod_lt _ (by decide), ?_⟩
      · rw [Nat.mod_eq_of_lt hlt]; exact h
      · rw [Nat.mod_eq_of_lt hlt]; simp
    · obtain ⟨d, h1, h2, h3, h4⟩ := ih (n / D) (Nat.div_lt_self (Nat.pos_of_ne_zero h) (by decide)) h0
      have hne : rdigs (n / D) ≠ [] := fun e => by rw [e] at h1; cases h1
      refine ⟨d, ?_, h2, h3, ?_⟩
      · cases hd : rdigs (n / D) with
        | nil => exact absurd hd hne
        | cons x l => rw [List.getLast?_cons_cons, ← hd]; exact h1
      · have hge : 2 ^ 16 ≤ n := by
          have : D ≤ n := Nat.le_of_not_lt fun hlt => h0 (Nat.div_eq_of_lt hlt)
          exact this
        rw [bl_shift hge]
        show 16 + bl (n / D) = _
        rw [h4]
        have : 0 < (rdigs (n / D)).length := List.length_pos_iff.2 hne
        simp only [List.length_cons]
        omega
theorem rbits_ok (K : Nat) (hK : 100000 < K) (d : Nat) (H : Heap) {v : SV} {n : Nat} (hv : IsR H v n) (hb : (rdigs n).length < 10000000) : runQ wk tab slow K (d + 1) 78 [v] H = some (i64 (bl n), H) := by
  show f78 slow K (runQ wk tab slow K d) v H = _
  by_cases h0 : n = 0
  · subst h0
    rw [IsR, rdigs_zero] at hv
    simp only [f78, rlen hv, z_eql, z_cond]
    rfl
  · obtain ⟨x, h1, h2, h3, h4⟩ := rbl_digs h0
    have h3' : x < 65536 := h3
    have hlen : 0 < (rdigs n).length := by
      cases hd : rdigs n with
      | nil => rw [hd] at h1; cases h1
      | cons _ _ => simp
    have hx : (rdigs n)[(rdigs n).length - 1]? = some x := by rw [← List.getLast?_eq_getElem?]; exact h1
    have hne : (((rdigs n).length : Int) == 0) = false := beq_eq_false_iff_ne.2 (by omega)
    have ha : Arr H v (rl (rdigs n)) := hv
    simp only [f78, rlen ha, z_eql, hne, z_cond, cond_false]
    rw [show (SV.int .i64 1) = i64 1 from rfl, n_subi _ (by omega) (by omega), show (SV.int .i64 16) = i64 16 from rfl, n_muli _ (by omega), n_subi _ (by omega) (by omega)]
    rw [ha.load (rl_get hx), rbits_loop _ K H x _ K (by omega) (by omega) (by omega), h4]
theorem rlong_ok (K : Nat) (hK : 100000 < K) (d : Nat) (H : Heap) {v : SV} {n : Nat} (hv : IsR H v n) (hb : (rdigs n).length < 10000000) : runQ wk tab slow K (d + 2) 44 [v] H = some (.bool (!decide (n < 2 ^ 4096)), H) := by
  have h1 := rbits_ok K hK d H hv hb
  show f44 slow K (runQ wk tab slow K (d + 1)) v H = _
  simp only [f44, h1, z_call]
  rw [show (SV.int .i64 4096) = i64 4096 from rfl, n_gtr, z_rest_bool]
  by_cases h : n < 2 ^ 4096
  · have hn : ¬ bl n > 4096 := Nat.not_lt.2 ((bl_le (k := 4096)).2 h)
    rw [decide_eq_false hn, decide_eq_true h]
    rfl
  · have hn : bl n > 4096 := Nat.lt_of_not_le fun hle => h ((bl_le (k := 4096)).1 hle)
    rw [decide_eq_true hn, decide_eq_false h]
    rfl
/-! ### Digits -/
theorem rdig_loop (C : CallC) (K : Nat) (H : Heap) {s : List UInt8} (hl : s.length < 9223372036854775808) : ∀ (rest : List UInt8) (i fuel : Nat), s.drop i = rest → rest.length < fuel →
    slow.loop2 (f97_l3 slow K C) fuel (.str s) (i64 i) H = some (.bool (rest.all isDig), H)
  | [], i, fuel, hd, hf => by
    obtain ⟨fuel, rfl⟩ : ∃ m, fuel = m + 1 := ⟨fuel - 1, by omega⟩
    have hi : ¬ i < s.length := by have := List.drop_eq_nil_iff.1 hd; omega
    rw [z_loop2]
    simp only [f97_l3, z_slen, n_lss, decide_eq_false hi, z_cond, cond_false, List.all_nil]
  | c :: rest, i, fuel, hd, hf => by
    obtain ⟨fuel, rfl⟩ : ∃ m, fuel = m + 1 := ⟨fuel - 1, by omega⟩
    have hc : s[i]? = some c := by
      have := congrArg List.head? hd
      rwa [List.head?_drop, List.head?_cons] at this
    have hi : i < s.length := (List.getElem?_eq_some_iff.1 hc).1
    have hd' : s.drop (i + 1) = rest := by rw [← List.drop_drop, hd]; rfl
    rw [z_loop2]
    simp only [f97_l3, z_slen, n_lss, decide_eq_true hi, z_cond, cond_true, z_stridx _ hc]
    rw [show (SV.int .u8 48) = u8 48 from rfl, show (SV.int .u8 57) = u8 57 from rfl]
    simp only [n_lss, n_gtr, z_guard]
    rw [List.all_cons]
    by_cases h1 : c.toNat < 48
    · have hn : isDig c = false := by simp [isDig]; omega
      rw [decide_eq_true h1, cond_true, hn]
      simp only [f97_j5, z_cond, cond_true, Bool.false_and]
    · rw [decide_eq_false h1, cond_false]
      by_cases h2 : c.toNat > 57
      · have hn : isDig c = false := by simp [isDig]; omega
        rw [decide_eq_true h2, hn]
        simp only [f97_j5, z_cond, cond_true, Bool.false_and]
      · have hy : isDig c = true := isDig_iff.2 ⟨by omega, by omega⟩
        rw [decide_eq_false h2, hy]
        simp only [f97_j5, z_cond, cond_false, Bool.true_and]
        rw [show (SV.int .i64 1) = i64 1 from rfl, n_addi _ (by omega)]
        exact rdig_loop C K H hl rest (i + 1) fuel hd' (by simp at hf; omega)
theorem rdigits_ok (K : Nat) (d : Nat) (H : Heap) {s : List UInt8} (hl : s.length < 9223372036854775808) (hsK : s.length < K) : runQ wk tab slow K (d + 1) 97 [.str s] H = some (.bool (digitsB s), H) := by
  show f97 slow K (runQ wk tab slow K d) (.str s) H = _
  by_cases h0 : s = []
  · subst h0; rfl
  · have hem : s.isEmpty = false := by cases s <;> simp_all
    have hz : ((s.length : Int) == 0) = false := beq_eq_false_iff_ne.2 (by have := List.length_pos_iff.2 h0; omega)
    simp only [f97, z_slen, z_eql, hz, z_guard, cond_false]
    rw [show (SV.int .i64 1) = i64 1 from rfl, n_gtr]
    by_cases h1 : s.length > 1
    · obtain ⟨c, hc⟩ : ∃ c, s[0]? = some c := ⟨_, List.getElem?_eq_getElem (by omega)⟩
      have hst : ∀ k, slow.stridx (.str s) (.int .i64 0) k = k (u8 c.toNat) := fun k => z_stridx (n := 0) k hc .i64
      have hhd : s.head? = some c := by rw [← hc]; cases s <;> rfl
      rw [decide_eq_true h1, z_guard, cond_true, hst, show (SV.int .u8 48) = u8 48 from rfl, n_eql]
      by_cases h2 : c.toNat = 48
      · have hB : digitsB s = false := by
          unfold digitsB
          rw [hhd, show c = 48 from UInt8.toNat_inj.1 h2, decide_eq_true (show 1 < s.length from h1)]
          simp
        rw [decide_eq_true h2, hB]
        rfl
      · have : (some c == some (48 : UInt8)) = false := beq_eq_false_iff_ne.2 fun e => h2 (by rw [Option.some.inj e]; rfl)
        rw [decide_eq_false h2]
        simp only [f97_j1, z_cond, cond_false]
        rw [show (SV.int .i64 0) = i64 0 from rfl, rdig_loop _ K H hl s 0 K rfl hsK]
        unfold digitsB
        rw [hhd, this, hem]
        simp
    · rw [decide_eq_false h1, z_guard, cond_false]
      simp only [f97_j1, z_cond, cond_false]
      rw [show (SV.int .i64 0) = i64 0 from rfl, rdig_loop _ K H hl s 0 K rfl hsK]
      unfold digitsB
      rw [hem, decide_eq_false (show ¬ 1 < s.length from h1)]
      simp
/-! ### Parse -/
theorem ten_D (i : Nat) : 10 ^ i ≤ D ^ i := Nat.pow_le_pow_left (by decide) i
theorem rpar_loop (K : Nat) (hK : 3000000 < K) (d : Nat) {H0 : Heap} {s : List UInt8} (hs : s.all isDig = true) (hl : s.length ≤ 1300) : ∀ (m i fuel a : Nat) (H : Heap) (o : SV), i + m = s.length → m < fuel → Frame H0 H → IsR H o a → a < 10 ^ i → isSlice o →
    ∃ r H', slow.loop3 (f98_l2 slow K (runQ wk tab slow K (d + 3))) fuel (.str s) o (i64 i) H = some (.tuple [r, .bool (decide (valS a (s.drop i) < 2 ^ 4096))], H') ∧ Frame H0 H' ∧ isSlice r ∧ (valS a (s.drop i) < 2 ^ 4096 → IsR H' r (valS a (s.drop i)))
  | 0, i, fuel, a, H, o, him, hf, hfr, ho, ha, hos => by
    obtain ⟨fuel, rfl⟩ : ∃ m, fuel = m + 1 := ⟨fuel - 1, by omega⟩
    have hi : ¬ i < s.length := by omega
    have hal : (rdigs a).length ≤ i := rdigs_len_le (Nat.lt_of_lt_of_le ha (ten_D i))
    have hlong := rlong_ok K (by omega) (d + 1) H ho (by omega)
    rw [List.drop_of_length_le (by omega), show valS a [] = a from rfl]
    rw [z_loop3]
    simp only [f98_l2, z_slen, n_lss, decide_eq_false hi, z_cond, cond_false, hlong, z_call]
    by_cases h : a < 2 ^ 4096
    · rw [decide_eq_true h]
      simp only [Bool.not_true, cond_false, z_rest (Arr.good ho)]
      exact ⟨o, H, rfl, hfr, hos, fun _ => ho⟩
    · rw [decide_eq_false h]
      simp only [Bool.not_false, cond_true]
      exact ⟨_, H, rfl, hfr, trivial, fun h' => absurd h' h⟩
  | m + 1, i, fuel, a, H, o, him, hf, hfr, ho, ha, hos => by
    obtain ⟨fuel, rfl⟩ : ∃ m, fuel = m + 1 := ⟨fuel - 1, by omega⟩
    have hi : i < s.length := by omega
    obtain ⟨x, hx⟩ : ∃ x, s[i]? = some x := ⟨_, List.getElem?_eq_getElem hi⟩
    have hdig := isDig_iff.1 (List.all_eq_true.1 hs x (List.mem_of_getElem? hx))
    have hdv := digV_eq x
    have hdx : s.drop i = x :: s.drop (i + 1) := List.drop_eq_getElem?_toList_append (l := s) (i := i) ▸ by rw [hx]; rfl
    have hal : (rdigs a).length ≤ i := rdigs_len_le (Nat.lt_of_lt_of_le ha (ten_D i))
    obtain ⟨t, H1, h1, f1, ht⟩ := rof_ok K (by omega) (d + 2) H (n := 10) (by decide)
    have h10 : (rdigs 10).length ≤ 4 := rdigs_len64 (by decide)
    obtain ⟨p, H2, h2, f2, hp⟩ := rmul01_ok K (d + 1) H1 (ho.fr f1) ht (by omega) (by omega) (by omega)
    have ha10 : a * 10 < 10 ^ (i + 1) := by rw [Nat.pow_succ]; omega
    have hpl : (rdigs (a * 10)).length ≤ i + 1 := rdigs_len_le (Nat.lt_of_lt_of_le ha10 (ten_D (i + 1)))
    obtain ⟨u, H3, h3, f3, hu⟩ := rof_ok K (by omega) (d + 2) H2 (n := digV x) (by omega)
    have hul : (rdigs (digV x)).length ≤ 4 := rdigs_len64 (by omega)
    obtain ⟨q, H4, h4, f4, hq⟩ := radd_ok K (d + 1) H3 (hp.fr f3) hu (by omega) (by omega) hK
    have hqs : isSlice q := Arr.isSlice hq
    have hsum : a * 10 + digV x < 10 ^ (i + 1) := by
      rw [Nat.pow_succ]
      omega
    obtain ⟨r, H5, h5, f5, hr5⟩ := rpar_loop K hK d hs hl m (i + 1) fuel (a * 10 + digV x) H4 q (by omega) (by omega) (Frame.trans hfr (Frame.trans f1 (Frame.trans f2 (Frame.trans f3 f4)))) hq hsum hqs
    have e5 : valS (a * 10 + digV x) (s.drop (i + 1)) = valS a (s.drop i) := by rw [hdx, valS_cons, Nat.mul_comm a 10]
    rw [e5] at h5 hr5
    refine ⟨r, H5, ?_, f5, hr5⟩
    have hsub : ∀ k, slow.sub (u8 x.toNat) (.int .u8 48) k = k (u8 (digV x)) := fun k => by
      rw [z_sub, show ((x.toNat : Int) - 48) = ((digV x : Nat) : Int) by omega, wrap_u8, Nat.mod_eq_of_lt (by omega)]
    rw [z_loop3]
    simp only [f98_l2, z_slen, n_lss, decide_eq_true hi, z_cond, cond_true]
    rw [show (SV.int .u64 10) = u64 10 from rfl, h1]
    simp only [z_call, h2, z_stridx _ hx, hsub]
    rw [n_conv64 _ .u8 _ (by omega), h3]
    simp only [z_call, h4]
    rw [show (SV.int .i64 1) = i64 1 from rfl, n_addi _ (by omega)]
    exact h5
theorem rparse01_ok (K : Nat) (hK : 3000000 < K) (d : Nat) (H : Heap) {s : List UInt8} (hB : digitsB s = true) : ∃ r H', runQ wk tab slow K (d + 4) 98 [.str s] H = some (.tuple [r, .bool (decide (valS 0 s < 2 ^ 4096))], H') ∧ Frame H H' ∧ isSlice r ∧ (valS 0 s < 2 ^ 4096 → IsR H' r (valS 0 s)) := by
  show ∃ r H', f98 slow K (runQ wk tab slow K (d + 3)) (.str s) H = _ ∧ _
  have hall : s.all isDig = true := by
    unfold digitsB at hB
    simp only [Bool.and_eq_true] at hB
    exact hB.2.2
  simp only [f98, z_slen]
  rw [show (SV.int .i64 1300) = i64 1300 from rfl, n_gtr, z_cond]
  by_cases hl : s.length > 1300
  · have hlong := long_text2 hB hl
    rw [decide_eq_true hl, cond_true, decide_eq_false hlong]
    exact ⟨_, H, rfl, Fr.refl _ _, trivial, fun h => absurd h hlong⟩
  · rw [decide_eq_false hl, cond_false]
    have := rpar_loop K hK d (H0 := H) hall (by omega) s.length 0 K 0 H (.slice nilSl) (by omega) (by omega) (Fr.refl _ _) (IsR.zero (Arr.nil H)) (by simp) trivial
    rw [List.drop_zero] at this
    exact this
theorem val_zero {t : List UInt8} (hB : digitsB t = true) (h0 : valS 0 t = 0) : t = [48] := by
  by_cases hl : 1 < t.length
  · have := digitsB_big hB hl
    have := Nat.pow_pos (n := t.length - 1) (show 0 < 10 by decide)
    omega
  · cases t with
    | nil => simp [digitsB] at hB
    | cons c t =>
      have ht : t = [] := List.eq_nil_of_length_eq_zero (by rw [List.length_cons] at hl; omega)
      subst ht
      simp only [digitsB, List.all_cons, List.all_nil, Bool.and_true, Bool.and_eq_true] at hB
      have hc := isDig_iff.1 hB.2.2
      have hd := digV_eq c
      rw [valS_cons] at h0
      simp only [valS] at h0
      rw [show c = 48 from UInt8.toNat_inj.1 (show c.toNat = 48 by omega)]
theorem rparse_ok (K : Nat) (hK : 3000000 < K) (d : Nat) (H : Heap) {s : List UInt8} (hl : s.length < 9223372036854775808) (hsK : s.length < K) :
    ∃ r H', runQ wk tab slow K (d + 5) 74 [.str s] H = some (.tuple [r, .int .i64 (errS s)], H') ∧ Frame H H' ∧ (∃ a b, r = .agg [a, b]) ∧ (errS s = 0 → IsRZ H' r (numS s)) := by
  show ∃ r H', f74 slow K (runQ wk tab slow K (d + 4)) (.str s) H = _ ∧ _
  have main : ∀ (t : List UInt8) (m : Bool), t = bodyS s → m = decide (s.head? = some 45) → t.length < 9223372036854775808 ∧ t.length < K → ∃ r H', f74_j2 slow K (runQ wk tab slow K (d + 4)) (.box [.bool false, .slice nilSl]) (.bool m) (.str t) H = some (.tuple [r, .int .i64 (errS s)], H') ∧ Frame H H' ∧ (∃ a b, r = .agg [a, b]) ∧ (errS s = 0 → IsRZ H' r (numS s)) := fun t m ht hm htl => by
    have hdg := rdigits_ok K (d + 3) H htl.1 htl.2
    have e48 : s = [45, 48] ↔ m = true ∧ t = [48] := by
      constructor
      · intro e
        subst e
        exact ⟨hm, ht⟩
      · rintro ⟨h1, h2⟩
        rw [h1] at hm
        have hh : s.head? = some 45 := of_decide_eq_true hm.symm
        rw [h2] at ht
        unfold bodyS at ht
        rw [if_pos hh] at ht
        cases s with
        | nil => cases hh
        | cons c s' =>
          simp at hh ht
          rw [hh, ← ht]
    have bad : errS s = 12 → ∃ r H', f74_j3 slow K (runQ wk tab slow K (d + 4)) (.box [.bool false, .slice nilSl]) (.bool m) (.str t) (.bool true) H = some (.tuple [r, .int .i64 (errS s)], H') ∧ Frame H H' ∧ (∃ a b, r = .agg [a, b]) ∧ (errS s = 0 → IsRZ H' r (numS s)) := fun e => by
      rw [e]
      exact ⟨_, H, rfl, Fr.refl _ _, ⟨_, _, rfl⟩, fun h => by cases h⟩
    simp only [f74_j2, hdg, z_call, z_not, z_guard]
    cases hB : digitsB t with
    | false =>
      have e1 : errS s = 12 := by
        unfold errS
        split
        · rfl
        · rw [← ht]; unfold errN; rw [hB]; rfl
      simp only [Bool.not_false, cond_true]
      exact bad e1
    | true =>
      simp only [Bool.not_true, cond_false, z_seql]
      have good : ¬ (m = true ∧ t = [48]) → ∃ r H', f74_j3 slow K (runQ wk tab slow K (d + 4)) (.box [.bool false, .slice nilSl]) (.bool m) (.str t) (.bool false) H = some (.tuple [r, .int .i64 (errS s)], H') ∧ Frame H H' ∧ (∃ a b, r = .agg [a, b]) ∧ (errS s = 0 → IsRZ H' r (numS s)) := fun hn => by
        have hs : ¬ s = [45, 48] := fun e => hn (e48.1 e)
        have e1 : errS s = errN t := by unfold errS; rw [if_neg hs, ht]
        have e2 : numS s = sgn m (numN t) := by unfold numS; rw [if_neg hs, ht, hm]
        obtain ⟨r, H1, h1, f1, hrs, hr⟩ := rparse01_ok K hK d H hB
        simp only [f74_j3, z_cond, cond_false, h1, z_call, z_ext0, z_ext1, z_not]
        rw [e1]
        by_cases hlt : valS 0 t < 2 ^ 4096
        · have e3 : errN t = 0 := by unfold errN; rw [hB, if_pos rfl, if_pos hlt]
          have e4 : numN t = valS 0 t := by unfold numN; rw [hB, decide_eq_true hlt]; rfl
          have hr := hr hlt
          cases r with
          | slice q =>
            rw [decide_eq_true hlt, e3]
            simp only [Bool.not_true, cond_false, z_build2s, z_bst2, z_resc2]
            refine ⟨_, H1, rfl, f1, ⟨_, _, rfl⟩, fun _ => ?_⟩
            rw [e2, e4]
            have hsg : decide (sgn m (valS 0 t) < 0) = m := by
              cases m with
              | false =>
                unfold sgn
                rw [if_neg (by decide)]
                exact decide_eq_false (by omega)
              | true =>
                have : valS 0 t ≠ 0 := fun e => hn ⟨rfl, val_zero hB e⟩
                unfold sgn
                rw [if_pos rfl]
                exact decide_eq_true (by omega)
            refine ⟨q, by rw [hsg], ?_⟩
            rw [sgn_abs]
            exact hr
          | _ => exact absurd hrs id
        · have e3 : errN t = 3 := by unfold errN; rw [hB, if_pos rfl, if_neg hlt]
          rw [decide_eq_false hlt, e3]
          simp only [Bool.not_false, cond_true]
          exact ⟨_, H1, rfl, f1, ⟨_, _, rfl⟩, fun h => by cases h⟩
      cases hmv : m with
      | false =>
        rw [hmv] at good
        simp only [cond_false]
        exact good fun h => by cases h.1
      | true =>
        rw [hmv] at good bad e48
        simp only [cond_true]
        by_cases h48 : t = [48]
        · have hb : (t == [48]) = true := by rw [h48]; rfl
          rw [hb]
          exact bad (if_pos (e48.2 ⟨rfl, h48⟩))
        · have hb : (t == [48]) = false := beq_eq_false_iff_ne.2 h48
          rw [hb]
          exact good fun h => h48 h.2
  simp only [f74, z_slen]
  rw [show (SV.int .i64 0) = i64 0 from rfl, n_gtr]
  by_cases h0 : s.length > 0
  · obtain ⟨c, hc⟩ : ∃ c, s[0]? = some c := ⟨_, List.getElem?_eq_getElem (by omega)⟩
    have hst : ∀ k, slow.stridx (.str s) (i64 0) k = k (u8 c.toNat) := fun k => z_stridx (n := 0) k hc .i64
    have hhd : s.head? = some c := by rw [← hc]; cases s <;> rfl
    rw [decide_eq_true h0, z_guard, cond_true, hst, show (SV.int .u8 45) = u8 45 from rfl, n_eql]
    by_cases h2 : c.toNat = 45
    · have hc45 : s.head? = some 45 := by rw [hhd, show c = 45 from UInt8.toNat_inj.1 h2]
      rw [decide_eq_true h2]
      simp only [f74_j1, z_cond, cond_true]
      rw [show (SV.int .i64 1) = i64 1 from rfl, z_strcut10 (by omega)]
      exact main _ true (by unfold bodyS; rw [if_pos hc45]) (decide_eq_true hc45).symm ⟨by simp; omega, by simp; omega⟩
    · have hc45 : ¬ s.head? = some 45 := by
        rw [hhd]
        intro e
        exact h2 (by rw [Option.some.inj e]; rfl)
      rw [decide_eq_false h2]
      simp only [f74_j1, z_cond, cond_false]
      exact main _ false (by unfold bodyS; rw [if_neg hc45]) (decide_eq_false hc45).symm ⟨hl, hsK⟩
  · have hc45 : ¬ s.head? = some 45 := by
      have : s = [] := List.eq_nil_of_length_eq_zero (by omega)
      rw [this]; simp
    rw [decide_eq_false h0, z_guard, cond_false]
    simp only [f74_j1, z_cond, cond_false]
    exact main _ false (by unfold bodyS; rw [if_neg hc45]) (decide_eq_false hc45).symm ⟨hl, hsK⟩
end Go.Sh.Of

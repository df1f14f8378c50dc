/- Contracts of the package nat: Parse. -/
import Derived.Test.YtcecdmacoklhpaaDecA
set_option linter.unusedVariables false
set_option linter.unusedSimpArgs false
namespace Go.Sh.Of
open Go

theorem z_strcut10 {s : List UInt8} {n : Nat} (h : n ≤ s.length) (kd : IntKind) (k : K1) : slow.strcut10 (.str s) (.int kd n) k = k (.str (s.drop n)) := by
  show (opP (.strcut true false) [.str s, .int kd n]).bind k = _
  simp only [opP, if_pos (show (0 : Int) ≤ (n : Int) ∧ (n : Int) ≤ s.length from ⟨by omega, by omega⟩), Int.toNat_natCast, Option.bind_some]
/-- The first loop: is each a digit? -/
theorem pchk (C : CallC) (K : Nat) (H : Heap) {s : List UInt8} (hl : s.length < 9223372036854775808) : ∀ (rest : List UInt8) (i fuel : Nat), s.drop i = rest → rest.length < fuel →
    slow.loop4 (f54_l3 slow K C) fuel (.str s) (.box [.slice nilSl]) (i64 s.length) (i64 i) H = if rest.all isDig then (if s.length > 4096 then some (.tuple [.agg [.slice nilSl], .int .i64 3], H) else slow.loop3 (f54_l10 slow K C) K (.str s) (.box [.slice nilSl]) (.slice nilSl) H) else some (.tuple [.agg [.slice nilSl], .int .i64 12], H)
  | [], i, fuel, hd, hf => by
    obtain ⟨fuel, rfl⟩ : ∃ m, fuel = m + 1 := ⟨fuel - 1, by omega⟩
    have hi : ¬ i < s.length := by have := List.drop_eq_nil_iff.1 hd; omega
    rw [z_loop4]
    simp only [f54_l3, n_lss, decide_eq_false hi, z_cond, cond_false, List.all_nil, if_true, z_slen]
    rw [show (SV.int .i64 4096) = i64 4096 from rfl, n_gtr]
    by_cases h : s.length > 4096
    · rw [decide_eq_true h, z_cond, cond_true, if_pos h]
      rfl
    · rw [decide_eq_false h, z_cond, cond_false, if_neg h]
  | c :: rest, i, fuel, hd, hf => by
    obtain ⟨fuel, rfl⟩ : ∃ m, fuel = m + 1 := ⟨fuel - 1, by omega⟩
    have hc : s[i]? = some c := by
      have := congrArg List.head? hd
      rwa [List.head?_drop, List.head?_cons] at this
    have hi : i < s.length := (List.getElem?_eq_some_iff.1 hc).1
    have hd' : s.drop (i + 1) = rest := by rw [← List.drop_drop, hd]; rfl
    rw [z_loop4]
    simp only [f54_l3, n_lss, decide_eq_true hi, z_cond, cond_true, z_stridx _ hc]
    rw [show (SV.int .u8 48) = u8 48 from rfl, show (SV.int .u8 57) = u8 57 from rfl]
    simp only [n_lss, n_gtr, z_guard]
    rw [List.all_cons]
    by_cases h1 : c.toNat < 48
    · have hn : isDig c = false := by simp [isDig]; omega
      rw [decide_eq_true h1, cond_true, hn]
      simp only [f54_j5, z_cond, cond_true, Bool.false_and, Bool.false_eq_true, if_false]
      rfl
    · rw [decide_eq_false h1, cond_false]
      by_cases h2 : c.toNat > 57
      · have hn : isDig c = false := by simp [isDig]; omega
        rw [decide_eq_true h2, hn]
        simp only [f54_j5, z_cond, cond_true, Bool.false_and, Bool.false_eq_true, if_false]
        rfl
      · have hy : isDig c = true := isDig_iff.2 ⟨by omega, by omega⟩
        rw [decide_eq_false h2, hy]
        simp only [f54_j5, z_cond, cond_false, Bool.true_and]
        rw [show (SV.int .i64 1) = i64 1 from rfl, n_addi _ (by omega)]
        exact pchk C K H hl rest (i + 1) fuel hd' (by simp at hf; omega)
/-- Digits times a number, and a number. -/
def mulL (b : Nat) : List Nat → Nat → List Nat × Nat
  | [], c => ([], c)
  | d :: ds, c => ((d * b + c) % B :: (mulL b ds ((d * b + c) / B)).1, (mulL b ds ((d * b + c) / B)).2)
theorem mulL_spec {b : Nat} (hb : b ≤ 1000000000) : ∀ {ds : List Nat} {c : Nat}, Small ds → c < 1000000000 → (mulL b ds c).1.length = ds.length ∧ (mulL b ds c).2 < 1000000000 ∧ val (mulL b ds c).1 + B ^ ds.length * (mulL b ds c).2 = val ds * b + c ∧ Small (mulL b ds c).1
  | [], c, _, hc => ⟨rfl, hc, by simp [mulL, val], fun d hd => by cases hd⟩
  | d :: ds, c, h, hc => by
    have hd := h d (by simp)
    have hdb : d * b ≤ (B - 1) * 1000000000 := Nat.mul_le_mul (by omega) hb
    have hq : (d * b + c) / B < 1000000000 := by
      rw [Nat.div_lt_iff_lt_mul (by decide)]
      have : (B - 1) * 1000000000 + 1000000000 = 1000000000 * B := by decide
      omega
    obtain ⟨h1, h2, h3, h4⟩ := mulL_spec hb (ds := ds) (fun x hx => h x (by simp [hx])) hq
    refine ⟨by simp [mulL, h1], h2, ?_, ?_⟩
    · simp only [mulL, val, List.length_cons, Nat.pow_succ]
      have hdm := Nat.mod_add_div (d * b + c) B
      have e : B ^ ds.length * B * (mulL b ds ((d * b + c) / B)).2 = B * (B ^ ds.length * (mulL b ds ((d * b + c) / B)).2) := by rw [Nat.mul_comm (B ^ ds.length) B, Nat.mul_assoc]
      rw [e, Nat.add_assoc, ← Nat.mul_add, h3, Nat.add_mul, Nat.mul_add, Nat.mul_assoc]
      omega
    · intro x hx
      rcases List.mem_cons.1 hx with rfl | hx
      · exact Nat.mod_lt _ (by decide)
      · exact h4 x hx
/-- The third loop: the digits times a power of ten, and the next nine. -/
theorem pmul (C : CallC) (K : Nat) {lo : Nat} {s : List UInt8} {n : Nat} (hn : n ≤ s.length) {v : SV} {b : Nat} (hb : b ≤ 1000000000) (k33 : SV → SV → SV → Heap → Rs) (bx : SV) (L : Nat) (hL : L < 100000) : ∀ (rest done : List Nat) (c fuel : Nat) (H : Heap), done.length + rest.length = L → rest.length < fuel → Small done → Small rest → c < 1000000000 → lo ≤ H.size → Own lo H v (limbs (done ++ rest)) →
    ∃ v' H' ds', slow.loop8 (f54_l16 slow K C k33) fuel (.str s) bx v (i64 n) (u64 c) (u64 b) (i64 L) (i64 done.length) H = k33 (.str (s.drop n)) bx v' H' ∧ Own lo H' v' (limbs ds') ∧ Small ds' ∧ ds'.length ≤ L + 1 ∧ val ds' = val done + B ^ done.length * (val rest * b + c) ∧ Fr lo H H'
  | [], done, c, fuel, H, hL', hf, hs, hr, hc, hlo, ho => by
    obtain ⟨fuel, rfl⟩ : ∃ m, fuel = m + 1 := ⟨fuel - 1, by omega⟩
    rw [List.append_nil] at ho
    have hlt : ¬ done.length < L := by simp at hL'; omega
    have hc32 : c % 4294967296 = c := Nat.mod_eq_of_lt (by omega)
    by_cases h0 : c > 0
    · obtain ⟨u, H1, hu, hou, hfu, hru, hsz⟩ := z_lay1 (H := H) (lo := H.size) (Nat.le_refl _) (.int .u32 0) (x := u32 c) rfl
      obtain ⟨v', H2, ha, ho2, hf2, _⟩ := (ho.fr hfu).append (Nat.le_trans hlo hfu.size) hou.arr (by_ := 4) (roomy_small (by simp at hL' ⊢; omega))
      have e1 : limbs done ++ [u32 c] = limbs (done ++ [c]) := by simp
      rw [e1] at ho2
      refine ⟨v', H2, done ++ [c], ?_, ho2, fun x hx => ?_, by simp at hL' ⊢; omega, by rw [val_append]; simp [val], (hfu.mono hlo).trans hf2⟩
      · rw [z_loop8]
        simp only [f54_l16, n_lss, decide_eq_false hlt, z_cond, cond_false]
        rw [show (SV.int .u64 0) = u64 0 from rfl, n_gtr, decide_eq_true h0]
        simp only [z_cond, cond_true, n_conv32, hc32, hu, ha, f54_j20, z_strcut10 hn]
      · rcases List.mem_append.1 hx with hx | hx
        · exact hs x hx
        · rw [List.mem_singleton.1 hx]
          have : (1000000000 : Nat) < B := by decide
          omega
    · have hc0 : c = 0 := by omega
      subst hc0
      refine ⟨v, H, done, ?_, ho, hs, by simp at hL'; omega, by simp [val], Fr.refl _ _⟩
      rw [z_loop8]
      simp only [f54_l16, n_lss, decide_eq_false hlt, z_cond, cond_false]
      rw [show (SV.int .u64 0) = u64 0 from rfl, n_gtr, decide_eq_false h0]
      simp only [z_cond, cond_false, f54_j20, z_strcut10 hn]
  | d :: rest, done, c, fuel, H, hL', hf, hs, hr, hc, hlo, ho => by
    obtain ⟨fuel, rfl⟩ : ∃ m, fuel = m + 1 := ⟨fuel - 1, by omega⟩
    simp only [List.length_cons] at hL' hf
    have hlt : done.length < L := by omega
    have hd := hr d (by simp)
    have hd' : d < 4294967296 := hd
    have hget : (limbs (done ++ d :: rest))[done.length]? = some (u32 d) := by simp
    have hdb : d * b ≤ (B - 1) * 1000000000 := Nat.mul_le_mul (by omega) hb
    have hBv : B = 4294967296 := rfl
    have hq : (d * b + c) / B < 1000000000 := by
      rw [Nat.div_lt_iff_lt_mul (by decide)]
      have : (B - 1) * 1000000000 + 1000000000 = 1000000000 * B := by decide
      omega
    obtain ⟨H1, st, ho1, hf1, sz1, _⟩ := ho.store (i := done.length) (by simp) (x := u32 ((d * b + c) % 4294967296)) rfl .i64
    have e1 : (limbs (done ++ d :: rest)).set done.length (u32 ((d * b + c) % 4294967296)) = limbs ((done ++ [(d * b + c) % B]) ++ rest) := by
      simp [limbs, B]
    rw [e1] at ho1
    obtain ⟨v', H', ds', h1, h2, h3, h4, h5, h6⟩ := pmul C K hn hb k33 bx L hL rest (done ++ [(d * b + c) % B]) ((d * b + c) / B) fuel H1 (by simp; omega) (by omega) (fun x hx => by
      rcases List.mem_append.1 hx with hx | hx
      · exact hs x hx
      · rw [List.mem_singleton.1 hx]; exact Nat.mod_lt _ (by decide)) (fun x hx => hr x (by simp [hx])) hq (by omega) ho1
    refine ⟨v', H', ds', ?_, h2, h3, h4, ?_, hf1.trans h6⟩
    · rw [z_loop8]
      simp only [f54_l16, n_lss, decide_eq_true hlt, z_cond, cond_true, ho.arr.load hget]
      have hm1 : d * b + c < 18446744073709551616 := by omega
      rw [n_conv64 _ .u32 d (by omega), n_mul64 _ (by omega), n_add64 _ hm1, n_conv32, show (SV.int .u64 32) = SV.int .u64 ((32 : Nat) : Int) from rfl, n_shr _ .u64 .u64 _ 32 (by decide), st]
      rw [show (SV.int .i64 1) = i64 1 from rfl, n_addi _ (by omega)]
      rw [List.length_append] at h1
      exact h1
    · rw [h5, val_append, List.length_append]
      simp only [val, List.length_cons, List.length_nil, Nat.zero_add, Nat.pow_succ, Nat.mul_zero, Nat.add_zero]
      have hdm := Nat.mod_add_div (d * b + c) B
      rw [Nat.add_assoc, Nat.mul_assoc (B ^ done.length) B, ← Nat.mul_add]
      congr 2
      rw [Nat.add_mul, Nat.mul_add, Nat.mul_assoc]
      omega
/-- The second loop: nine digits, or what is ahead of them. -/
theorem pten (C : CallC) (K : Nat) (H : Heap) {s : List UInt8} (hs : s.all isDig = true) {n : Nat} (hn9 : n ≤ 9) (hn : n ≤ s.length) {v : SV} {ds : List Nat} (hv : Arr H v (limbs ds)) (k33 : SV → SV → SV → Heap → Rs) (bx : SV) : ∀ (m i c fuel : Nat), i + m = n → m < fuel → c < 10 ^ i →
    slow.loop8 (f54_l12 slow K C k33) fuel (.str s) bx v (i64 n) (u64 c) (u64 (10 ^ i)) (i64 n) (i64 i) H = slow.loop8 (f54_l16 slow K C k33) K (.str s) bx v (i64 n) (u64 (valS c ((s.drop i).take m))) (u64 (10 ^ n)) (i64 ds.length) (i64 0) H
  | 0, i, c, fuel, him, hf, hc => by
    obtain ⟨fuel, rfl⟩ : ∃ m, fuel = m + 1 := ⟨fuel - 1, by omega⟩
    have hi : i = n := by omega
    subst hi
    rw [z_loop8]
    have hlt : ¬ i < i := Nat.lt_irrefl i
    simp only [f54_l12, n_lss, decide_eq_false hlt, z_cond, cond_false, blen hv, List.take_zero, valS]
    rfl
  | m + 1, i, c, fuel, him, hf, hc => by
    obtain ⟨fuel, rfl⟩ : ∃ m, fuel = m + 1 := ⟨fuel - 1, by omega⟩
    have hlt : i < n := by omega
    obtain ⟨x, hx⟩ : ∃ x, s[i]? = some x := ⟨_, List.getElem?_eq_getElem (by omega)⟩
    have hdig := isDig_iff.1 (List.all_eq_true.1 hs x (List.mem_of_getElem? hx))
    have hdx : s.drop i = x :: s.drop (i + 1) := List.drop_eq_getElem?_toList_append (l := s) (i := i) ▸ by rw [hx]; rfl
    have hdv := digV_eq x
    have hp : 10 ^ i ≤ 10 ^ 8 := Nat.pow_le_pow_right (by decide) (by omega)
    rw [z_loop8]
    have hsub : ∀ k, slow.sub (u8 x.toNat) (.int .u8 48) k = k (u8 (digV x)) := fun k => by
      rw [z_sub, show ((x.toNat : Int) - 48) = ((digV x : Nat) : Int) by omega, wrap_u8, Nat.mod_eq_of_lt (by omega)]
    simp only [f54_l12, n_lss, decide_eq_true hlt, z_cond, cond_true, z_stridx _ hx, hsub]
    rw [show (SV.int .u64 10) = u64 10 from rfl, n_mul64 _ (by omega), n_conv64 _ .u8 _ (by omega), n_add64 _ (by omega), n_mul64 _ (by omega), show (SV.int .i64 1) = i64 1 from rfl, n_addi _ (by omega)]
    have e10 : 10 * 10 ^ i = 10 ^ (i + 1) := by rw [Nat.pow_succ, Nat.mul_comm]
    rw [e10, pten C K H hs hn9 hn hv k33 bx m (i + 1) (10 * c + digV x) fuel (by omega) (by omega) (by rw [Nat.pow_succ]; omega)]
    rw [hdx, List.take_succ_cons, valS_cons]
theorem pout (K : Nat) (hK : 100000 < K) (d : Nat) {H0 : Heap} : ∀ (N : Nat) (s : List UInt8) (fuel : Nat) (H : Heap) (v : SV) (ds : List Nat), s.length ≤ N → N < fuel → s.all isDig = true → ds.length + s.length ≤ 5000 → Frame H0 H → Own H0.size H v (limbs ds) → Small ds →
    ∃ r H', slow.loop3 (f54_l10 slow K (runQ wk tab slow K (d + 3))) fuel (.str s) (.box [.slice nilSl]) v H = some (.tuple [r, .int .i64 (if valS (val ds) s < 2 ^ 4096 then 0 else 3)], H') ∧ Frame H0 H' ∧ IsNat H' r (if valS (val ds) s < 2 ^ 4096 then valS (val ds) s else 0)
  | N, [], fuel, H, v, ds, hN, hf, hs, hl, hfr, ho, hsm => by
    obtain ⟨fuel, rfl⟩ : ∃ m, fuel = m + 1 := ⟨fuel - 1, by omega⟩
    simp only [List.length_nil, Nat.add_zero] at hl
    obtain ⟨sl, h2, hcut⟩ := cut_ok K (d + 2) H (ds := ds) ho.arr hsm ho.root (by omega) (by omega)
    have hlen : (digs (val ds)).length < 10000000 := by
      have := digs_len_le (val_lt hsm)
      omega
    obtain ⟨r, h3, h4⟩ := fits_ok K d H hcut.isNat hlen
    obtain ⟨sl2, rfl, h5, h6⟩ := h4
    refine ⟨.agg [sl2], H, ?_, hfr, sl2, rfl, h5, h6⟩
    rw [z_loop3]
    simp only [f54_l10, z_slen, List.length_nil]
    rw [show (SV.int .i64 0) = i64 0 from rfl, n_gtr]
    have h00 : ¬ (0 : Nat) > 0 := by omega
    simp only [decide_eq_false h00, z_cond, cond_false, h2, z_call, h3, z_ext0, z_ext1, z_bst1, z_resc1, z_rest_int, valS]
    rfl
  | N, x :: s', fuel, H, v, ds, hN, hf, hs, hl, hfr, ho, hsm => by
    obtain ⟨fuel, rfl⟩ : ∃ m, fuel = m + 1 := ⟨fuel - 1, by omega⟩
    obtain ⟨N, rfl⟩ : ∃ m, N = m + 1 := ⟨N - 1, by simp at hN; omega⟩
    generalize hsx : x :: s' = s at *
    have hpos : s.length > 0 := by rw [← hsx]; simp
    have hn0 : (s.length - 1) % 9 + 1 ≤ s.length := by
      have := Nat.mod_le (s.length - 1) 9
      omega
    have hn9 : (s.length - 1) % 9 + 1 ≤ 9 := by omega
    generalize hne : (s.length - 1) % 9 + 1 = n at hn0 hn9
    have hn1 : 1 ≤ n := by omega
    have hct : (s.take n).all isDig = true := List.all_eq_true.2 fun c hc => List.all_eq_true.1 hs c (List.mem_of_mem_take hc)
    have hcd : (s.drop n).all isDig = true := List.all_eq_true.2 fun c hc => List.all_eq_true.1 hs c (List.mem_of_mem_drop hc)
    have htl : (s.take n).length = n := List.length_take_of_le hn0
    have hclt := valS_lt (s.take n) hct
    rw [htl] at hclt
    have hp9 : 10 ^ n ≤ 10 ^ 9 := Nat.pow_le_pow_right (by decide) hn9
    obtain ⟨v', H1, ds', h1, ho1, hsm1, hl1, hv1, f1⟩ := pmul (runQ wk tab slow K (d + 3)) K hn0 (v := v) (b := 10 ^ n) (by omega) (slow.loop3 (f54_l10 slow K (runQ wk tab slow K (d + 3))) fuel) (.box [.slice nilSl]) ds.length (by omega) ds [] (valS 0 (s.take n)) K H (by simp) (by omega) (fun x hx => by cases hx) hsm (by omega) hfr.size ho
    have e2 : val ds' = valS (val ds) (s.take n) := by
      rw [hv1, valS_split (val ds), htl]
      simp [val]
    have hdl : (s.drop n).length = s.length - n := by simp
    obtain ⟨r, H2, h3, f3, hr⟩ := pout K hK d N (s.drop n) fuel H1 v' ds' (by omega) (by omega) hcd (by omega) (Fr.trans hfr f1) ho1 hsm1
    have e3 : valS (val ds') (s.drop n) = valS (val ds) s := by
      rw [e2, ← valS_append, List.take_append_drop]
    rw [e3] at h3 hr
    refine ⟨r, H2, ?_, f3, hr⟩
    rw [z_loop3]
    simp only [f54_l10, z_slen]
    rw [show (SV.int .i64 0) = i64 0 from rfl, n_gtr, decide_eq_true hpos, z_cond, cond_true, show (SV.int .i64 1) = i64 1 from rfl, n_subi _ (by omega) (by omega), show (SV.int .i64 9) = i64 9 from rfl, n_rem _ .i64 _ (by decide), n_addi _ (by omega), hne]
    have hten := pten (runQ wk tab slow K (d + 3)) K H hs hn9 hn0 ho.arr (slow.loop3 (f54_l10 slow K (runQ wk tab slow K (d + 3))) fuel) (.box [.slice nilSl]) n 0 0 K (by omega) (by omega) (by simp)
    rw [Nat.pow_zero, List.drop_zero] at hten
    rw [show (SV.int .u64 0) = u64 0 from rfl, show (SV.int .u64 1) = u64 1 from rfl, hten]
    exact h1.trans h3
/-- Parse: the number of a text, or the error. -/
theorem nparse_ok (K : Nat) (hK : 1000000 < K) (d : Nat) (H : Heap) {s : List UInt8} (hl : s.length < 9223372036854775808) (hsK : s.length < K) :
    ∃ r H', runQ wk tab slow K (d + 4) 54 [.str s] H = some (.tuple [r, .int .i64 (errN s)], H') ∧ Frame H H' ∧ IsNat H' r (numN s) := by
  show ∃ r H', f54 slow K (runQ wk tab slow K (d + 3)) (.str s) H = _ ∧ _
  have hz : IsNat H (.agg [.slice nilSl]) 0 := ⟨_, rfl, by rw [digs_zero]; exact Arr.nil H, rfl⟩
  have bad : f54_j1 slow K (runQ wk tab slow K (d + 3)) (.str s) (.box [.slice nilSl]) (.bool true) H = some (.tuple [.agg [.slice nilSl], .int .i64 12], H) := rfl
  by_cases h0 : s = []
  · subst h0
    exact ⟨_, H, rfl, Fr.refl _ _, hz⟩
  · have h0b : (s == ([] : List UInt8)) = false := by
      cases s with
      | nil => exact absurd rfl h0
      | cons _ _ => rfl
    have hem : s.isEmpty = false := by cases s <;> simp_all
    have good : (!(decide (1 < s.length) && s.head? == some 48)) = true → ∃ r H', f54_j1 slow K (runQ wk tab slow K (d + 3)) (.str s) (.box [.slice nilSl]) (.bool false) H = some (.tuple [r, .int .i64 (errN s)], H') ∧ Frame H H' ∧ IsNat H' r (numN s) := fun hh => by
      simp only [f54_j1, z_cond, cond_false, z_slen]
      rw [show (SV.int .i64 0) = i64 0 from rfl, pchk _ K H hl s 0 K rfl (by omega)]
      cases hall : s.all isDig with
      | false =>
        have hB : digitsB s = false := by unfold digitsB; rw [hall]; simp
        have e1 : errN s = 12 := by unfold errN; rw [hB]; rfl
        have e2 : numN s = 0 := by unfold numN; rw [hB]; rfl
        rw [e1, e2]
        exact ⟨_, H, rfl, Fr.refl _ _, hz⟩
      | true =>
        have hB : digitsB s = true := by unfold digitsB; rw [hall, hh, hem]; rfl
        by_cases hbig : s.length > 4096
        · have hlong := long_text hB hbig
          have e1 : errN s = 3 := by unfold errN; rw [if_pos hB, if_neg hlong]
          have e2 : numN s = 0 := by unfold numN; rw [hB, decide_eq_false hlong]; rfl
          rw [e1, e2, if_pos rfl, if_pos hbig]
          exact ⟨_, H, rfl, Fr.refl _ _, hz⟩
        · rw [if_pos rfl, if_neg hbig]
          obtain ⟨r, H', h1, f1, hr⟩ := pout K (by omega) d (H0 := H) 4096 s K H (.slice nilSl) [] (by omega) (by omega) hall (by simp; omega) (Fr.refl _ _) (Own.nil _ _) (fun x hx => by cases hx)
          refine ⟨r, H', ?_, f1, ?_⟩
          · rw [h1]; unfold errN; rw [if_pos hB]; rfl
          · unfold numN
            rw [hB, Bool.true_and]
            simp only [decide_eq_true_eq]
            exact hr
    simp only [f54, z_seql, h0b, z_guard, cond_false, z_slen]
    rw [show (SV.int .i64 1) = i64 1 from rfl, n_gtr]
    by_cases h1 : s.length > 1
    · obtain ⟨c, hc⟩ : ∃ c, s[0]? = some c := ⟨_, List.getElem?_eq_getElem (by omega)⟩
      have hst : ∀ k, slow.stridx (.str s) (.int .i64 0) k = k (u8 c.toNat) := fun k => z_stridx (n := 0) k hc .i64
      have hhd : s.head? = some c := by rw [← hc]; cases s <;> rfl
      rw [decide_eq_true h1, z_guard, cond_true, hst, show (SV.int .u8 48) = u8 48 from rfl, n_eql]
      by_cases h2 : c.toNat = 48
      · have hB : digitsB s = false := by
          unfold digitsB
          rw [hhd, show c = 48 from UInt8.toNat_inj.1 h2, decide_eq_true (show 1 < s.length from h1)]
          simp
        have e1 : errN s = 12 := by unfold errN; rw [hB]; rfl
        have e2 : numN s = 0 := by unfold numN; rw [hB]; rfl
        rw [decide_eq_true h2, bad, e1, e2]
        exact ⟨_, H, rfl, Fr.refl _ _, hz⟩
      · rw [decide_eq_false h2]
        refine good ?_
        have : (some c == some (48 : UInt8)) = false := beq_eq_false_iff_ne.2 fun e => h2 (by rw [Option.some.inj e]; rfl)
        rw [hhd, this]
        simp
    · rw [decide_eq_false h1, z_guard, cond_false]
      refine good ?_
      rw [decide_eq_false (show ¬ 1 < s.length from h1)]
      rfl
/-- A whole number's text is read. -/
theorem zparse_ok (K : Nat) (hK : 1000000 < K) (d : Nat) (H : Heap) {s : List UInt8} (hl : s.length < 9223372036854775808) (hsK : s.length < K) :
    ∃ r H', runQ wk tab slow K (d + 5) 32 [.str s] H = some (.tuple [r, .int .i64 (errS s)], H') ∧ Frame H H' ∧ IsInt H' r (numS s) := by
  show ∃ r H', f32 slow K (runQ wk tab slow K (d + 4)) (.str s) H = _ ∧ _
  have main : ∀ (t : List UInt8) (m : Bool), t = bodyS s → m = decide (s.head? = some 45) → t.length < 9223372036854775808 ∧ t.length < K → ∃ r H', f32_j2 slow K (runQ wk tab slow K (d + 4)) (.str s) (.box [.bool false, .slice nilSl]) (.str t) (.bool m) H = some (.tuple [r, .int .i64 (errS s)], H') ∧ Frame H H' ∧ IsInt H' r (numS s) := fun t m ht hm htl => by
    simp only [f32_j2, z_seql]
    by_cases h1 : s = [45, 48]
    · have hb : (s == [45, 48]) = true := by rw [h1]; rfl
      have e1 : errS s = 12 := if_pos h1
      have e2 : numS s = 0 := if_pos h1
      rw [hb, e1, e2]
      exact ⟨_, H, rfl, Fr.refl _ _, IsInt.zero H⟩
    · have hb : (s == [45, 48]) = false := beq_eq_false_iff_ne.2 h1
      obtain ⟨r, H1, h2, f1, hr⟩ := nparse_ok K hK d H (s := t) htl.1 htl.2
      have e1 : errS s = errN t := by unfold errS; rw [if_neg h1, ht]
      have e2 : numS s = sgn m (numN t) := by unfold numS; rw [if_neg h1, ht, hm]
      rw [hb, e1, e2]
      have hn := numN_lt t
      obtain ⟨sl, rfl, hsl, hsf⟩ := hr
      simp only [z_cond, cond_false, h2, z_call, z_ext0, z_ext1, z_bst1, z_neq]
      by_cases h3 : errN t = 0
      · rw [h3]
        obtain ⟨r2, h5, hr2⟩ := zmake_ok K (d + 1) H1 (v := .agg [sl]) (n := numN t) m ⟨sl, rfl, hsl, hsf⟩ (by have := digs_len hn; omega)
        obtain ⟨sl2, rfl, h6, h7⟩ := hr2
        refine ⟨_, H1, ?_, f1, sl2, rfl, h6, h7⟩
        simp only [bne_self_eq_false, z_cond, cond_false, z_lload1, h5, z_call, z_bst2, z_resc2]
      · have hb2 : (errN t != 0) = true := bne_iff_ne.2 h3
        have h4 : numN t = 0 := by
          unfold numN
          unfold errN at h3
          split
          · rename_i hh
            rw [Bool.and_eq_true, decide_eq_true_eq] at hh
            rw [if_pos hh.1, if_pos hh.2] at h3
            exact absurd rfl h3
          · rfl
        have h5 : sgn m (numN t) = 0 := by rw [h4]; unfold sgn; split <;> rfl
        rw [h5, hb2]
        simp only [z_cond, cond_true, z_rest_int]
        exact ⟨_, H1, rfl, f1, IsInt.zero H1⟩
  simp only [f32, z_slen]
  rw [show (SV.int .i64 0) = i64 0 from rfl, n_gtr]
  by_cases h0 : s.length > 0
  · obtain ⟨c, hc⟩ : ∃ c, s[0]? = some c := ⟨_, List.getElem?_eq_getElem (by omega)⟩
    have hst : ∀ k, slow.stridx (.str s) (i64 0) k = k (u8 c.toNat) := fun k => z_stridx (n := 0) k hc .i64
    have hhd : s.head? = some c := by rw [← hc]; cases s <;> rfl
    rw [decide_eq_true h0, z_guard, cond_true, hst, show (SV.int .u8 45) = u8 45 from rfl, n_eql]
    by_cases h2 : c.toNat = 45
    · have hc45 : s.head? = some 45 := by rw [hhd, show c = 45 from UInt8.toNat_inj.1 h2]
      rw [decide_eq_true h2]
      simp only [f32_j1, z_cond, cond_true]
      rw [show (SV.int .i64 1) = i64 1 from rfl, z_strcut10 (by omega)]
      exact main _ true (by unfold bodyS; rw [if_pos hc45]) (decide_eq_true hc45).symm ⟨by simp; omega, by simp; omega⟩
    · have hc45 : ¬ s.head? = some 45 := by
        rw [hhd]
        intro e
        exact h2 (by rw [Option.some.inj e]; rfl)
      rw [decide_eq_false h2]
      simp only [f32_j1, z_cond, cond_false]
      exact main _ false (by unfold bodyS; rw [if_neg hc45]) (decide_eq_false hc45).symm ⟨hl, hsK⟩
  · have hc45 : ¬ s.head? = some 45 := by
      have : s = [] := List.eq_nil_of_length_eq_zero (by omega)
      rw [this]; simp
    rw [decide_eq_false h0, z_guard, cond_false]
    simp only [f32_j1, z_cond, cond_false]
    exact main _ false (by unfold bodyS; rw [if_neg hc45]) (decide_eq_false hc45).symm ⟨hl, hsK⟩
end Go.Sh.Of

/- What the reference tells of a list of points: inverse, sign, cycles. -/
import Derived.Test.YtdmpghboginogaaCycC
set_option linter.unusedVariables false
set_option linter.unusedSimpArgs false
namespace Go.Sh.Of
open Go

theorem k_inc {a : Nat} (h : a < 1000000) (k : K1) : slow.add (i64 a) (.int .i64 1) k = k (i64 (a + 1)) := n_addi k (b := 1) (by omega)
/-! ### Inverse -/
theorem rinv_loop (C : CallC) (K : Nat) {H0 : Heap} {v o : SV} {p : List Int} (hv : Arr H0 v (intsL .i64 p)) (hck : ckE p = 0) : ∀ (m i fuel : Nat) (H : Heap) (l : List Int), i + m = p.length → m < fuel → Frame H0 H → Own H0.size H o (intsL .i64 l) → l.length = p.length → (∀ j x : Nat, j < i → p[j]? = some (x : Int) → l[x]? = some (j : Int)) →
    ∃ H' l', slow.loop3 (f16_l2 slow K C) fuel v o (i64 i) H = some (.tuple [o, .int .i64 0], H') ∧ Frame H0 H' ∧ Own H0.size H' o (intsL .i64 l') ∧ IsInv p l'
  | 0, i, fuel, H, l, him, hf, hfr, ho, hl, hj => by
    obtain ⟨fuel, rfl⟩ : ∃ m, fuel = m + 1 := ⟨fuel - 1, by omega⟩
    have hi : ¬ i < p.length := by omega
    refine ⟨H, l, ?_, hfr, ho, hl, fun j x hjx => hj j x (by have := (List.getElem?_eq_some_iff.1 hjx).1; omega) hjx⟩
    rw [z_loop3]
    simp only [f16_l2, alen (hv.fr hfr), n_lss, decide_eq_false hi, z_cond, cond_false, z_rest ho.arr.good]
  | m + 1, i, fuel, H, l, him, hf, hfr, ho, hl, hj => by
    obtain ⟨fuel, rfl⟩ : ∃ m, fuel = m + 1 := ⟨fuel - 1, by omega⟩
    have hi : i < p.length := by omega
    have hp64 := (ck_zero hck).1
    obtain ⟨z, hz⟩ : ∃ z, p[i]? = some z := ⟨_, List.getElem?_eq_getElem hi⟩
    obtain ⟨z0, z1⟩ := ck_mem hck z (List.mem_of_getElem? hz)
    obtain ⟨x, rfl⟩ : ∃ x : Nat, z = x := ⟨z.toNat, by omega⟩
    obtain ⟨H1, st, ho1, g1, _, _⟩ := ho.store (i := x) (by simp; omega) (x := i64 i) rfl .i64
    rw [show (intsL .i64 l).set x (i64 i) = intsL .i64 (l.set x (i : Int)) by simp [intsL, List.map_set]] at ho1
    obtain ⟨H2, l2, h2, g2⟩ := rinv_loop C K hv hck m (i + 1) fuel H1 _ (by omega) (by omega) (Fr.trans hfr g1) ho1 (by simp [hl]) (fun j y hji hjy => by
      by_cases e : j = i
      · subst e
        rw [hz] at hjy
        have : x = y := by have := Option.some.inj hjy; omega
        subst this
        rw [List.getElem?_set_self (by omega)]
      · have hne : x ≠ y := fun e2 => by
          subst e2
          exact e (ck_inj hck j i _ hjy hz)
        rw [List.getElem?_set_ne hne]
        exact hj j y (by omega) hjy)
    refine ⟨H2, l2, ?_, g2⟩
    rw [z_loop3]
    simp only [f16_l2, alen (hv.fr hfr), n_lss, decide_eq_true hi, z_cond, cond_true, (hv.fr hfr).load (ints_get hz), st, k_inc (show i < 1000000 by omega)]
    exact h2
theorem rinv_ok (K : Nat) (hK : 1000 < K) (d : Nat) (H : Heap) {v : SV} {p : List Int} (hv : Arr H v (intsL .i64 p)) :
    ∃ r H', runQ wk tab slow K (d + 2) 16 [v] H = some (.tuple [r, .int .i64 (ckE p)], H') ∧ Frame H H' ∧ (ckE p = 0 → ∃ l, Own H.size H' r (intsL .i64 l) ∧ IsInv p l) ∧ (ckE p ≠ 0 → r = .slice nilSl) := by
  show ∃ r H', f16 slow K (runQ wk tab slow K (d + 1)) v H = _ ∧ _
  obtain ⟨H1, h1, g1⟩ := rcheck_ok K (by omega) d H hv
  simp only [f16, h1, z_call, z_neq]
  by_cases h0 : ckE p = 0
  · have hb : (ckE p != 0) = false := by simp [h0]
    have hp64 := (ck_zero h0).1
    simp only [hb, z_cond, cond_false, alen (hv.fr g1)]
    obtain ⟨o, H2, h2, o2, g2, _, _⟩ := z_make (H := H1) (lo := H1.size) (Nat.le_refl _) 8 (.int .i64 0) p.length (by omega) (roomy_small (by omega)) .i64 .i64
    rw [h2]
    have e0 : List.replicate p.length (SV.int .i64 0) = intsL .i64 (List.replicate p.length 0) := by simp [intsL]
    rw [e0] at o2
    obtain ⟨H3, l, h3, g3, o3, i3⟩ := rinv_loop (runQ wk tab slow K (d + 1)) K (hv.fr g1) h0 p.length 0 K H2 _ (by omega) (by omega) g2 o2 (by simp) (fun j x hj => by omega)
    refine ⟨o, H3, ?_, g1.trans g3, fun _ => ⟨l, o3.mono g1.size, i3⟩, fun h => absurd h0 h⟩
    rw [h0]
    exact h3
  · have hb : (ckE p != 0) = true := by simp [h0]
    simp only [hb, z_cond, cond_true, z_rest_int]
    exact ⟨_, H1, rfl, g1, fun h => absurd h h0, fun _ => rfl⟩
theorem IsInv.uniq {p l l' : List Int} (hck : ckE p = 0) (h : IsInv p l) (h' : IsInv p l') : l = l' := by
  have P := IsP.of hck rfl
  apply List.ext_getElem?
  intro y
  by_cases hy : y < p.length
  · obtain ⟨j, hj, e⟩ := surj P.inj P.lt hy
    have hpj : p[j]? = some (y : Int) := by rw [P.fn.2 j hj, e]
    rw [h.2 j y hpj, h'.2 j y hpj]
  · rw [List.getElem?_eq_none (by rw [h.1]; omega), List.getElem?_eq_none (by rw [h'.1]; omega)]
/-! ### The sign, by the pairs -/
def cntN (f : Nat → Nat) (x : Nat) : Nat → Nat
  | 0 => 0
  | k + 1 => cntN f x k + (if x < f k then 1 else 0)
def invN (f : Nat → Nat) : Nat → Nat
  | 0 => 0
  | n + 1 => invN f n + cntN f (f n) n
theorem cntN_par (f : Nat → Nat) (x : Nat) : ∀ n, isOdd (cntN f x n) = cntP f x n
  | 0 => rfl
  | n + 1 => by
    rw [cntN, isOdd_add, cntN_par f x n, cntP]
    by_cases h : x < f n
    · rw [if_pos h, decide_eq_true h]; rfl
    · rw [if_neg h, decide_eq_false h]; rfl
theorem invN_par (f : Nat → Nat) : ∀ n, isOdd (invN f n) = odd f n
  | 0 => rfl
  | n + 1 => by rw [invN, isOdd_add, invN_par f n, cntN_par, odd]
theorem cntN_le (f : Nat → Nat) (x : Nat) : ∀ n, cntN f x n ≤ n
  | 0 => Nat.le_refl _
  | n + 1 => by
    have := cntN_le f x n
    rw [cntN]
    split <;> omega
theorem invN_le (f : Nat → Nat) (m : Nat) : ∀ n, n ≤ m → invN f n ≤ n * m
  | 0, _ => Nat.zero_le _
  | n + 1, h => by
    have h1 := invN_le f m n (by omega)
    have h2 := cntN_le f (f n) n
    rw [invN, Nat.succ_mul]
    omega
theorem reven_in (C : CallC) (K : Nat) (H : Heap) {v : SV} {p : List Int} {n i c0 : Nat} {f : Nat → Nat} (hv : Arr H v (intsL .i64 p)) (hf : IsFn p n f) (hi : i < n) (hn : n ≤ 64) (hc0 : c0 ≤ 5000) (k10 : SV → SV → SV → Heap → Rs) : ∀ (m k fuel : Nat), k + m = i → m < fuel →
    slow.loop4 (f19_l4 slow K C k10) fuel v (i64 (c0 + cntN f (f i) k)) (i64 i) (i64 k) H = k10 v (i64 (c0 + cntN f (f i) i)) (i64 (i + 1)) H
  | 0, k, fuel, hk, hfu => by
    obtain ⟨fuel, rfl⟩ : ∃ m, fuel = m + 1 := ⟨fuel - 1, by omega⟩
    have e : k = i := by omega
    subst e
    have hlt : ¬ k < k := Nat.lt_irrefl k
    rw [z_loop4]
    simp only [f19_l4, n_lss, decide_eq_false hlt, z_cond, cond_false, k_inc (show k < 1000000 by omega)]
  | m + 1, k, fuel, hk, hfu => by
    obtain ⟨fuel, rfl⟩ : ∃ m, fuel = m + 1 := ⟨fuel - 1, by omega⟩
    have hlt : k < i := by omega
    have hle := cntN_le f (f i) k
    have ih := reven_in C K H hv hf hi hn hc0 k10 m (k + 1) fuel (by omega) (by omega)
    rw [cntN] at ih
    rw [z_loop4]
    simp only [f19_l4, n_lss, decide_eq_true hlt, z_cond, cond_true, hv.load (ints_get (hf.2 k (by omega))), hv.load (ints_get (hf.2 i hi)), n_gtr]
    by_cases h : f k > f i
    · rw [if_pos (show f i < f k from h)] at ih
      simp only [decide_eq_true h, cond_true, k_inc (show c0 + cntN f (f i) k < 1000000 by omega), f19_j6, k_inc (show k < 1000000 by omega)]
      exact ih
    · rw [if_neg (show ¬ f i < f k from h)] at ih
      simp only [decide_eq_false h, cond_false, f19_j6, k_inc (show k < 1000000 by omega)]
      exact ih
theorem reven_out (C : CallC) (K : Nat) (hK : 1000 < K) (H : Heap) {v : SV} {p : List Int} {n : Nat} {f : Nat → Nat} (hv : Arr H v (intsL .i64 p)) (hf : IsFn p n f) (hn : n ≤ 64) : ∀ (m i fuel : Nat), i + m = n → m < fuel →
    slow.loop3 (f19_l2 slow K C) fuel v (i64 (invN f i)) (i64 i) H = some (.tuple [.bool (!odd f n), .int .i64 0], H)
  | 0, i, fuel, hi, hfu => by
    obtain ⟨fuel, rfl⟩ : ∃ m, fuel = m + 1 := ⟨fuel - 1, by omega⟩
    have e : i = n := by omega
    subst e
    have hl := hf.1
    have hlt : ¬ i < p.length := by omega
    have e1 : ∀ k, slow.rem (i64 (invN f i)) (.int .i64 2) k = k (i64 (invN f i % 2)) := fun k => n_rem k .i64 _ (b := 2) (by decide)
    have e2 : (((invN f i % 2 : Nat) : Int) == 0) = !odd f i := by
      rw [← invN_par]
      unfold isOdd
      rcases Nat.mod_two_eq_zero_or_one (invN f i) with h | h <;> rw [h] <;> rfl
    rw [z_loop3]
    simp only [f19_l2, alen hv, n_lss, decide_eq_false hlt, z_cond, cond_false, e1, z_eql, e2, z_rest_bool]
  | m + 1, i, fuel, hi, hfu => by
    obtain ⟨fuel, rfl⟩ : ∃ m, fuel = m + 1 := ⟨fuel - 1, by omega⟩
    have hl := hf.1
    have hlt : i < p.length := by omega
    have hle := invN_le f 64 i (by omega)
    have h1 := reven_in C K H hv hf (show i < n by omega) hn (c0 := invN f i) (by omega) (slow.loop3 (f19_l2 slow K C) fuel) i 0 K (by omega) (by omega)
    have h2 := reven_out C K hK H hv hf hn m (i + 1) fuel (by omega) (by omega)
    rw [cntN, Nat.add_zero] at h1
    rw [invN] at h2
    rw [z_loop3]
    simp only [f19_l2, alen hv, n_lss, decide_eq_true hlt, z_cond, cond_true]
    exact h1.trans h2
theorem reven_ok (K : Nat) (hK : 1000 < K) (d : Nat) (H : Heap) {v : SV} {p : List Int} (hv : Arr H v (intsL .i64 p)) :
    ∃ H', runQ wk tab slow K (d + 2) 19 [v] H = some (.tuple [.bool (decide (ckE p = 0) && !odd (fnI p) p.length), .int .i64 (ckE p)], H') ∧ Frame H H' := by
  show ∃ H', f19 slow K (runQ wk tab slow K (d + 1)) v H = _ ∧ _
  obtain ⟨H1, h1, g1⟩ := rcheck_ok K (by omega) d H hv
  simp only [f19, h1, z_call, z_neq]
  by_cases h0 : ckE p = 0
  · have hb : (ckE p != 0) = false := by simp [h0]
    have P := IsP.of h0 rfl
    have hn := P.le
    have h2 := reven_out (runQ wk tab slow K (d + 1)) K hK H1 (hv.fr g1) P.fn hn p.length 0 K (by omega) (by omega)
    refine ⟨H1, ?_, g1⟩
    simp only [hb, z_cond, cond_false]
    rw [h0, decide_eq_true rfl, Bool.true_and]
    exact h2
  · have hb : (ckE p != 0) = true := by simp [h0]
    refine ⟨H1, ?_, g1⟩
    simp only [hb, z_cond, cond_true, z_rest_int, decide_eq_false h0, Bool.false_and]
/-! ### Cycles -/
theorem IsCyc.uniq {f : Nat → Nat} {i : Nat} {c c' : List Nat} (h : IsCyc f i c) (h' : IsCyc f i c') : c = c' := by
  have key : ∀ {a b : List Nat}, IsCyc f i a → IsCyc f i b → ¬ a.length < b.length := fun {a b} ha hb hlt => by
    have h0 := (List.getElem?_eq_some_iff.1 ha.1).1
    have h1 := ha.it ha.1 a.length
    have h2 := hb.it hb.1 a.length
    rw [Nat.zero_add, Nat.mod_self, ha.1] at h1
    rw [Nat.zero_add, Nat.mod_eq_of_lt hlt, ← Option.some.inj h1] at h2
    have := nodup_at hb.2.1 h2 hb.1
    omega
  have hl : c.length = c'.length := by
    have h1 := key h h'
    have h2 := key h' h
    omega
  apply List.ext_getElem?
  intro t
  by_cases ht : t < c.length
  · have h1 := h.it h.1 t
    have h2 := h'.it h'.1 t
    rw [Nat.zero_add, Nat.mod_eq_of_lt ht] at h1
    rw [Nat.zero_add, Nat.mod_eq_of_lt (by omega)] at h2
    rw [h1, h2]
  · rw [List.getElem?_eq_none (by omega), List.getElem?_eq_none (by omega)]
theorem CycTo.uniq {f : Nat → Nat} {i : Nat} {cs : List (List Nat)} (h : CycTo f i cs) : ∀ {cs'}, CycTo f i cs' → cs = cs' := by
  induction h with
  | zero => intro cs' h'; cases h'; rfl
  | @skip i cs h1 hs ih =>
    intro cs' h'
    cases h' with
    | skip h2 _ => exact ih h2
    | add h2 a b hc =>
      have e := ih h2
      subst e
      rcases hs with hs | hs
      · exact absurd hs a
      · exact absurd hs b
  | @add i cs c h1 a b hc ih =>
    intro cs' h'
    cases h' with
    | skip h2 hs =>
      have e := ih h2
      subst e
      rcases hs with hs | hs
      · exact absurd hs a
      · exact absurd hs b
    | add h2 _ _ hc' =>
      have e := ih h2
      subst e
      rw [hc.uniq hc']
/-- Is a point the least of its cycle? -/
def leastB (i : Nat) (c : List Nat) : Bool := c.all fun x => decide (i ≤ x)
theorem leastB_snoc (i : Nat) (c : List Nat) (k : Nat) : leastB i (c ++ [k]) = (leastB i c && decide (i ≤ k)) := by simp [leastB]
theorem CycTo.next {f : Nat → Nat} {n : Nat} (hp : InjOn f n) (hb : ∀ x, x < n → f x < n) {i : Nat} (hi : i < n) {cs : List (List Nat)} (h : CycTo f i cs) {c : List Nat} (hc : IsCyc f i c) : CycTo f (i + 1) (if (leastB i c && decide (1 < c.length)) = true then cs ++ [c] else cs) := by
  have hci := h.inv hp hb (by omega)
  have hl0 := (List.getElem?_eq_some_iff.1 hc.1).1
  by_cases h1 : f i = i
  · have hl : ¬ 1 < c.length := fun hl => by
      have h2 := hc.step hc.1
      rw [h1, Nat.mod_eq_of_lt (by omega)] at h2
      have := nodup_at hc.2.1 h2 hc.1
      omega
    rw [decide_eq_false hl, Bool.and_false, if_neg (by decide)]
    exact h.skip (.inl h1)
  · have hl : 1 < c.length := Decidable.byContradiction fun hl => by
      have h2 := hc.step hc.1
      rw [show c.length = 1 by omega, Nat.mod_self, hc.1] at h2
      exact h1 (Option.some.inj h2).symm
    rw [decide_eq_true hl, Bool.and_true]
    by_cases hm : i ∈ cs.flatten
    · have hg := h.good hp hb (by omega)
      have : leastB i c = false := by
        obtain ⟨d, hd, hid⟩ := List.mem_flatten.1 hm
        obtain ⟨l, a, b, _⟩ := hg.each d hd
        obtain ⟨j, hj⟩ := List.getElem?_of_mem hid
        have hjl := (List.getElem?_eq_some_iff.1 hj).1
        have h3 := a.it hj (d.length - j)
        rw [show j + (d.length - j) = d.length by omega, Nat.mod_self, a.1] at h3
        have h4 := hc.it hc.1 (d.length - j)
        rw [← Option.some.inj h3] at h4
        refine Bool.eq_false_iff.2 fun h5 => ?_
        have := (List.all_eq_true.1 h5) l (List.mem_of_getElem? h4)
        have := of_decide_eq_true this
        omega
      rw [this, if_neg (by decide)]
      exact h.skip (.inr hm)
    · have hN := h.add h1 hm hc
      have hg := hN.good hp hb (by omega)
      have : leastB i c = true := List.all_eq_true.2 fun x hx => by
        obtain ⟨l, a, _, _, b⟩ := hg.each c (by simp)
        have e : l = i := Option.some.inj (a.1.symm.trans hc.1)
        have := b x hx
        exact decide_eq_true (by omega)
      rw [this, if_pos rfl]
      exact hN
theorem rcyc_in (K : Nat) (C : CallC) {Hi : Heap} {v out : SV} {l : List Int} {n i lo : Nat} {f : Nat → Nat} (hv : Arr Hi v (intsL .i64 l)) (hl : IsFn l n f) (hn : n ≤ 64) (hf : InjOn f n) (hb : ∀ x, x < n → f x < n) {cs : List (List Nat)} (hcl : cs.length ≤ 64) (hi : i < n) (hlo : lo ≤ Hi.size) (hout : OutOk lo Hi out cs) (k10 : SV → SV → SV → Heap → Rs) : ∀ (fuel : Nat) (H : Heap) (c : List Nat) (k : Nat) (t : SV), n + 1 ≤ c.length + fuel → Frame Hi H → Own Hi.size H t (natsL c) → Path f (c ++ [k]) → c[0]? = some i → c.Nodup → (∀ x ∈ c, x < n) → k < n →
    ∃ c' out' H', slow.loop6 (f17_l4 slow K C k10) fuel v out (i64 i) t (.bool (leastB i c)) (i64 k) H = k10 v out' (i64 (i + 1)) H' ∧ Fr lo Hi H' ∧ IsCyc f i c' ∧ OutOk lo H' out' (if (leastB i c' && decide (1 < c'.length)) = true then cs ++ [c'] else cs)
  | 0, H, c, k, t, hfu, hfr, ht, hp, h0, hnd, hc, hk => by
    have := nodup_len hnd hc
    omega
  | fuel + 1, H, c, k, t, hfu, hfr, ht, hp, h0, hnd, hc, hk => by
    have hcl' := nodup_len hnd hc
    rw [z_loop6]
    simp only [f17_l4, n_neq, z_cond]
    by_cases e : k = i
    · subst e
      have hcyc : IsCyc f k c := ⟨h0, hnd, hp⟩
      have hd : decide (k ≠ k) = false := decide_eq_false fun h => h rfl
      have htl : ∀ k', slow.len t k' = k' (i64 c.length) := fun k' => by rw [ht.arr.len, natsL_len]
      have hgt : ∀ k', slow.gtr (i64 c.length) (.int .i64 1) k' = k' (.bool (decide (1 < c.length))) := fun k' => n_gtr k' .i64 c.length 1
      rw [hd, cond_false, z_guard]
      obtain ⟨ws, w1, w2, w3⟩ := hout
      have w1' := w1.fr hfr
      have w3' : ∀ (q : Nat) w l, ws[q]? = some w → cs[q]? = some l → Own lo H w (natsL l) := fun q w l hw hl => (w3 q w l hw hl).fr hfr
      have hno : ∀ b : Bool, b = false → ∃ c' out' H', f17_j9 slow K C k10 v out (i64 k) t (.bool b) H = k10 v out' (i64 (k + 1)) H' ∧ Fr lo Hi H' ∧ IsCyc f k c' ∧ OutOk lo H' out' (if (b && decide (1 < c'.length)) = true then cs ++ [c'] else cs) := fun b hb' => by
        subst hb'
        refine ⟨c, out, H, ?_, hfr.mono hlo, hcyc, ?_⟩
        · simp only [f17_j9, z_cond, cond_false, f17_j10, k_inc (show k < 1000000 by omega)]
        · rw [Bool.false_and, if_neg (by decide)]
          exact ⟨ws, w1', w2, w3'⟩
      cases hle : leastB k c with
      | false =>
        rw [cond_false]
        obtain ⟨c', out', H', q1, q2, q3, q4⟩ := hno false rfl
        refine ⟨c, out, H, ?_, hfr.mono hlo, hcyc, ?_⟩
        · simp only [f17_j9, z_cond, cond_false, f17_j10, k_inc (show k < 1000000 by omega)]
        · rw [hle, Bool.false_and, if_neg (by decide)]
          exact ⟨ws, w1', w2, w3'⟩
      | true =>
        rw [cond_true, htl, hgt]
        by_cases h1 : 1 < c.length
        · obtain ⟨out', H2, hpu, ho2, g2, ro2, ge2⟩ := pushO w1' (Nat.le_trans hlo hfr.size) (.slice nilSl) (x := t) ht.arr.flat (by_ := 24) (roomy_small (by omega))
          refine ⟨c, out', H2, ?_, (hfr.mono hlo).trans g2, hcyc, ?_⟩
          · simp only [decide_eq_true h1, f17_j9, z_cond, cond_true, hpu, f17_j10, k_inc (show k < 1000000 by omega)]
          · rw [hle, decide_eq_true h1, Bool.and_self, if_pos rfl]
            refine ⟨ws ++ [t], ho2, by simp [w2], fun q w l hw hl => ?_⟩
            by_cases hq : q < ws.length
            · rw [List.getElem?_append_left hq] at hw
              rw [List.getElem?_append_left (by omega)] at hl
              have hb := w3' q w l hw hl
              exact Own.ofr hb fun r hr => ro2 r (out_kind w1' w2 w3' hw hl hr) (own_lt hb hr).2.1
            · have hq2 : q = ws.length := by have := (List.getElem?_eq_some_iff.1 hw).1; simp at this; omega
              subst hq2
              simp at hw
              subst hw
              rw [w2] at hl
              simp at hl
              subst hl
              refine (Own.ofr ht fun r hr => ro2 r (fun h => ?_) (own_lt ht hr).2.1).mono hlo
              have h1 := (own_lt ht hr).1
              have h2 := (own_lt w1 h).2.1
              omega
        · refine ⟨c, out, H, ?_, hfr.mono hlo, hcyc, ?_⟩
          · simp only [decide_eq_false h1, f17_j9, z_cond, cond_false, f17_j10, k_inc (show k < 1000000 by omega)]
          · rw [decide_eq_false h1, Bool.and_false, if_neg (by decide)]
            exact ⟨ws, w1', w2, w3'⟩
    · have hd : decide (k ≠ i) = true := decide_eq_true e
      have hne : c ≠ [] := fun h => by rw [h] at h0; simp at h0
      have hl0 : 0 < c.length := List.length_pos_iff.2 hne
      have hkc : k ∉ c := fun h => by
        have hcy := walk_back (F := []) hf (fun x _ h => by cases h) (by simp) hp (by rw [List.getElem?_append_left hl0]; exact h0) hnd (fun x hx => ⟨hc x hx, by simp⟩) (by simpa using h)
        obtain ⟨z, hz⟩ : ∃ z, c[c.length - 1]? = some z := ⟨_, List.getElem?_eq_getElem (by omega)⟩
        have e1 := hp (c.length - 1) z k (by rw [List.getElem?_append_left (by omega)]; exact hz) (by rw [show c.length - 1 + 1 = c.length by omega]; simp)
        have e2 := hcy.2.2 (c.length - 1) z i (by rw [List.getElem?_append_left (by omega)]; exact hz) (by rw [show c.length - 1 + 1 = c.length by omega]; simp)
        exact e (e1.symm.trans e2)
      obtain ⟨t', H2, hpu, ht2, g2, _⟩ := pushO ht hfr.size (.int .i64 0) (x := i64 k) rfl (by_ := 8) (roomy_small (by rw [natsL_len]; omega))
      have e1 : natsL c ++ [i64 k] = natsL (c ++ [k]) := by simp [natsL]
      rw [e1] at ht2
      have hfr2 : Frame Hi H2 := Fr.trans hfr g2
      obtain ⟨c', out', H3, h3, g3⟩ := rcyc_in K C hv hl hn hf hb hcl hi hlo hout k10 fuel H2 (c ++ [k]) (f k) t' (by simp; omega) hfr2 ht2 hp.snoc (by
        rw [List.getElem?_append_left hl0]
        exact h0) (by
        rw [List.nodup_append]
        exact ⟨hnd, by simp, fun a ha b hb' he => hkc (by
          rw [List.mem_singleton] at hb'
          rw [← hb', ← he]
          exact ha)⟩) (fun x hx => by
        rcases List.mem_append.1 hx with hx | hx
        · exact hc x hx
        · rw [List.mem_singleton.1 hx]
          exact hk) (hb k hk)
      refine ⟨c', out', H3, ?_, g3⟩
      rw [leastB_snoc] at h3
      have hgt : decide (k > i) = decide (i ≤ k) := decide_eq_decide.2 ⟨fun h => by omega, fun h => by omega⟩
      rw [hd, cond_true]
      simp only [hpu, z_guard]
      cases hle : leastB i c with
      | true =>
        rw [hle, Bool.true_and] at h3
        simp only [cond_true, n_gtr, hgt, f17_j6, (hv.fr hfr2).load (ints_get (hl.2 k hk))]
        exact h3
      | false =>
        rw [hle, Bool.false_and] at h3
        simp only [cond_false, f17_j6, (hv.fr hfr2).load (ints_get (hl.2 k hk))]
        exact h3
theorem rcyc_loop (K : Nat) (hK : 1000 < K) (C : CallC) {H0 : Heap} {v : SV} {l : List Int} {n : Nat} {f : Nat → Nat} (hv : Arr H0 v (intsL .i64 l)) (hl : IsFn l n f) (hn : n ≤ 64) (hf : InjOn f n) (hb : ∀ x, x < n → f x < n) : ∀ (m i fuel : Nat) (H : Heap) (out : SV) (cs : List (List Nat)), i + m = n → m < fuel → Frame H0 H → OutOk H0.size H out cs → CycTo f i cs →
    ∃ r H' cs', slow.loop3 (f17_l2 slow K C) fuel v out (i64 i) H = some (.tuple [r, .int .i64 0], H') ∧ Frame H0 H' ∧ OutOk H0.size H' r cs' ∧ CycTo f n cs'
  | 0, i, fuel, H, out, cs, him, hfu, hfr, ho, hc => by
    obtain ⟨fuel, rfl⟩ : ∃ m, fuel = m + 1 := ⟨fuel - 1, by omega⟩
    have hi : i = n := by omega
    subst hi
    have hll := hl.1
    have hlt : ¬ i < l.length := by omega
    have hg : out.good = true := by
      obtain ⟨ws, h, _⟩ := ho
      exact h.arr.good
    refine ⟨out, H, cs, ?_, hfr, ho, hc⟩
    rw [z_loop3]
    simp only [f17_l2, alen (hv.fr hfr), n_lss, decide_eq_false hlt, z_cond, cond_false, z_rest hg]
  | m + 1, i, fuel, H, out, cs, him, hfu, hfr, ho, hc => by
    obtain ⟨fuel, rfl⟩ : ∃ m, fuel = m + 1 := ⟨fuel - 1, by omega⟩
    have hi : i < n := by omega
    have hll := hl.1
    have hlt : i < l.length := by omega
    have hcl := cyc_len hc
    obtain ⟨t, H1, h1, o1, g1, _, _⟩ := z_lay1 (H := H) (lo := H.size) (Nat.le_refl _) (.int .i64 0) (x := i64 i) rfl
    have ho1 : OutOk H0.size H1 out cs := by
      obtain ⟨ws, w1, w2, w3⟩ := ho
      exact ⟨ws, w1.fr g1, w2, fun q w l hw hl => (w3 q w l hw hl).fr g1⟩
    obtain ⟨c', out', H2, h2, g2, y2, o2⟩ := rcyc_in K C (Hi := H) (hv.fr hfr) hl hn hf hb (by omega) hi hfr.size ho (slow.loop3 (f17_l2 slow K C) fuel) K H1 [i] (f i) t (by simp; omega) g1 o1 (fun j x y hx hy => by
      have hj := (List.getElem?_eq_some_iff.1 hy).1
      simp at hj
      have hj0 : j = 0 := by omega
      subst hj0
      simp at hx hy
      rw [← hx, hy]) rfl (by simp) (fun x hx => by rw [List.mem_singleton.1 hx]; exact hi) (hb i hi)
    obtain ⟨r, H3, cs3, h3, g3⟩ := rcyc_loop K hK C hv hl hn hf hb m (i + 1) fuel H2 out' _ (by omega) (by omega) (Fr.trans hfr g2) o2 (hc.next hf hb hi y2)
    refine ⟨r, H3, cs3, ?_, g3⟩
    have hle : leastB i [i] = true := by simp [leastB]
    rw [hle] at h2
    rw [z_loop3]
    simp only [f17_l2, alen (hv.fr hfr), n_lss, decide_eq_true hlt, z_cond, cond_true, h1, ((hv.fr hfr).fr g1).load (ints_get (hl.2 i hi))]
    exact h2.trans h3
theorem rcyc_ok (K : Nat) (hK : 1000 < K) (d : Nat) (H : Heap) {v : SV} {p : List Int} (hv : Arr H v (intsL .i64 p)) :
    ∃ r H', runQ wk tab slow K (d + 2) 17 [v] H = some (.tuple [r, .int .i64 (ckE p)], H') ∧ Frame H H' ∧ (ckE p = 0 → ∃ cs, OutOk H.size H' r cs ∧ CycTo (fnI p) p.length cs) ∧ (ckE p ≠ 0 → r = .slice nilSl) := by
  show ∃ r H', f17 slow K (runQ wk tab slow K (d + 1)) v H = _ ∧ _
  obtain ⟨H1, h1, g1⟩ := rcheck_ok K (by omega) d H hv
  simp only [f17, h1, z_call, z_neq]
  by_cases h0 : ckE p = 0
  · have hb : (ckE p != 0) = false := by simp [h0]
    have P := IsP.of h0 rfl
    have hn := P.le
    simp only [hb, z_cond, cond_false]
    obtain ⟨r, H2, cs, h2, g2, o2, c2⟩ := rcyc_loop K hK (runQ wk tab slow K (d + 1)) (hv.fr g1) P.fn hn P.inj P.lt p.length 0 K H1 (.slice nilSl) [] (by omega) (by omega) (Fr.refl _ _) ⟨[], Own.nil _ _, rfl, fun q w l hw => by simp at hw⟩ .zero
    refine ⟨r, H2, ?_, g1.trans g2, fun _ => ⟨cs, ?_, c2⟩, fun h => absurd h0 h⟩
    · rw [h0]
      exact h2
    · obtain ⟨ws, w1, w2, w3⟩ := o2
      exact ⟨ws, w1.mono g1.size, w2, fun q w l hw hl => (w3 q w l hw hl).mono g1.size⟩
  · have hb : (ckE p != 0) = true := by simp [h0]
    simp only [hb, z_cond, cond_true, z_rest_int]
    exact ⟨_, H1, rfl, g1, fun h => absurd h h0, fun _ => rfl⟩
end Go.Sh.Of

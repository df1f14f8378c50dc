/- Contracts of the package nat: Sub, Mul. -/
import Derived.Test.YtnjdnndlhpdjiaaNatC
set_option linter.unusedVariables false
set_option linter.unusedSimpArgs false
namespace Go.Sh.Of
open Go

/-! ### Sub -/
theorem borrow_eq {x y c : Nat} (hx : x < 4294967296) (hy : y < 4294967296) (hc : c ≤ 1) : ∃ z c', (x + 2 * 4294967296 - y - c) % 4294967296 = z ∧ (if x < y + c then 1 else 0) = c' ∧ z < B ∧ c' ≤ 1 ∧ z + y + c = x + B * c' := by
  refine ⟨_, _, rfl, rfl, Nat.mod_lt _ (by decide), by split <;> omega, ?_⟩
  show _ = x + 4294967296 * _
  split <;> omega
theorem less_loop (C : CallC) (K : Nat) (d : Nat) (lo : Nat) {H0 : Heap} {v w : SV} {bs : List Nat} (hw : Arr H0 w (limbs bs)) (hlo : lo = H0.size) (hbs : Small bs) {n : Nat} (hn : n < 100000) (hbn : bs.length ≤ n) {r : Nat} {S : Nat} : ∀ (j i fuel : Nat) (c : Nat) (H : Heap) (res rest : List Nat), i + j = n → j < fuel → c ≤ 1 → rest.length = j → Small rest → Small res → res.length = i → Frame H0 H → Wr lo H v r [] (limbs (res ++ rest)) [] → val res + B ^ i * val rest = S + B ^ i * (c + val (bs.drop i)) → val (bs.drop i) + c ≤ val rest →
    ∃ H' res', slow.loop5 (f68_l1 slow K (runQ wk tab slow K (d + 1))) fuel v w (u32 c) (i64 n) (i64 i) H = some (.tuple [], H') ∧ Frame H0 H' ∧ Wr lo H' v r [] (limbs res') [] ∧ Small res' ∧ val res' = S ∧ res'.length = n
  | 0, i, fuel, c, H, res, rest, hij, hf, hc, hrl, hrs, hres, hri, hfr, hwr, hv, hge => by
    obtain ⟨fuel, rfl⟩ : ∃ m, fuel = m + 1 := ⟨fuel - 1, by omega⟩
    have hrest : rest = [] := List.eq_nil_of_length_eq_zero hrl
    subst hrest
    have hdrop : bs.drop i = [] := List.drop_eq_nil_iff.2 (by omega)
    rw [hdrop] at hv hge
    simp only [val] at hv hge
    have hc0 : c = 0 := by omega
    subst hc0
    rw [List.append_nil] at hwr
    refine ⟨H, res, ?_, hfr, hwr, hres, by simpa using hv, by omega⟩
    rw [z_loop5]
    have hlt : ¬ (i < n) := by omega
    simp only [f68_l1, n_lss, decide_eq_false hlt, z_cond, cond_false, f68_j5]
  | j + 1, i, fuel, c, H, res, rest, hij, hf, hc, hrl, hrs, hres, hri, hfr, hwr, hv, hge => by
    obtain ⟨fuel, rfl⟩ : ∃ m, fuel = m + 1 := ⟨fuel - 1, by omega⟩
    obtain ⟨x, rest, rfl⟩ : ∃ x l, rest = x :: l := by cases rest with | nil => simp at hrl | cons x l => exact ⟨x, l, rfl⟩
    have hxB : x < 4294967296 := hrs x (by simp)
    have hlt : i < n := by omega
    have hget : (limbs (res ++ x :: rest))[i]? = some (u32 x) := limbs_get (get_app_mid _ _ _ hri)
    have hw' := hw.fr hfr
    -- a step with the other digit y
    have step : ∀ y, y < 4294967296 → val (bs.drop i) = y + B * val (bs.drop (i + 1)) → ∃ H' res', f68_j3 slow K (runQ wk tab slow K (d + 1)) (slow.loop5 (f68_l1 slow K (runQ wk tab slow K (d + 1))) fuel) v w (u32 c) (i64 i) (u32 y) (i64 n) (i64 i) H = some (.tuple [], H') ∧ Frame H0 H' ∧ Wr lo H' v r [] (limbs res') [] ∧ Small res' ∧ val res' = S ∧ res'.length = n := fun y hyB hy => by
      obtain ⟨z, c', hzz, hcc, hlt1, hc1, hbor⟩ := borrow_eq hxB hyB hc
      obtain ⟨H1, st, hw1, f1, sz1, _⟩ := hwr.store (i := i) (by simp; omega) (x := u32 z) rfl .i64
      rw [limbs_set, set_app_mid _ _ _ _ hri] at hw1
      rw [hy] at hv hge
      simp only [val] at hv hge
      obtain ⟨H', res', h1, h2, h3, h4, h5, h6⟩ := less_loop C K d lo hw hlo hbs hn hbn (S := S) j (i + 1) fuel c' H1 (res ++ [z]) rest (by omega) (by omega) hc1 (by simpa using hrl) (fun q hq => hrs q (by simp [hq])) (fun q hq => by
          rcases List.mem_append.1 hq with hq | hq
          · exact hres q hq
          · rw [List.mem_singleton.1 hq]; exact hlt1) (by simp [hri]) (Fr.trans hfr (by rw [← hlo]; exact f1)) hw1 (by
          rw [val_append, hri]
          simp only [val, Nat.mul_zero, Nat.add_zero, Nat.pow_succ]
          generalize val (bs.drop (i + 1)) = bv at *
          generalize val rest = rv at *
          generalize B ^ i = P at *
          have e1 : P * (z + y + c) = P * (x + B * c') := by rw [hbor]
          simp only [Nat.mul_add, Nat.mul_assoc] at hv e1 ⊢
          omega) (by
          generalize val (bs.drop (i + 1)) = bv at *
          generalize val rest = rv at *
          apply Nat.le_of_not_lt
          intro hlt2
          have : B * rv + B ≤ B * (bv + c') := by rw [← Nat.mul_succ]; exact Nat.mul_le_mul_left _ hlt2
          rw [Nat.mul_add] at this
          omega)
      refine ⟨H', res', ?_, h2, h3, h4, h5, h6⟩
      unfold f68_j3
      rw [hwr.arr.load hget, sub32_ok K d H hxB hyB hc, hzz, hcc, z_call, z_ext0, z_ext1]
      rw [st, show (SV.int .i64 1) = i64 1 from rfl, n_addi _ (by omega)]
      exact h1
    rw [z_loop5]
    by_cases hib : i < bs.length
    · obtain ⟨y, hy⟩ : ∃ y, bs[i]? = some y := ⟨_, List.getElem?_eq_getElem hib⟩
      have hyB : y < 4294967296 := hbs y (List.mem_of_getElem? hy)
      have hdb : bs.drop i = y :: bs.drop (i + 1) := List.drop_eq_getElem?_toList_append (l := bs) (i := i) ▸ by rw [hy]; rfl
      simp only [f68_l1, n_lss, decide_eq_true hlt, z_cond, cond_true, blen hw', decide_eq_true hib, hw'.load (limbs_get hy)]
      exact step y hyB (by rw [hdb]; rfl)
    · have hdb : bs.drop i = [] := List.drop_eq_nil_iff.2 (by omega)
      have hdb2 : bs.drop (i + 1) = [] := List.drop_eq_nil_iff.2 (by omega)
      simp only [f68_l1, n_lss, decide_eq_true hlt, z_cond, cond_true, blen hw', decide_eq_false hib, cond_false]
      rw [show (SV.int .u32 0) = u32 0 from rfl, n_eql, z_cond]
      by_cases hc0 : c = 0
      · subst hc0
        simp only [decide_true, cond_true, f68_j5]
        rw [hdb] at hv
        refine ⟨H, res ++ x :: rest, rfl, hfr, hwr, fun q hq => ?_, ?_, by simp at hrl; simp; omega⟩
        · rcases List.mem_append.1 hq with hq | hq
          · exact hres q hq
          · exact hrs q hq
        · rw [val_append, hri, hv]; simp [val]
      · simp only [decide_eq_false hc0, cond_false]
        exact step 0 (by decide) (by rw [hdb, hdb2]; rfl)
theorem sub_ok (K : Nat) (d : Nat) (H : Heap) {v w : SV} {a b : Nat} (hv : IsNat H v a) (hw : IsNat H w b) (hK : 1000 < K) (ha : a < 2 ^ 4096) :
    ∃ r H', runQ wk tab slow K (d + 3) 61 [v, w] H = some (.tuple [r, .int .i64 (if a < b then 10 else 0)], H') ∧ Frame H H' ∧ IsNat H' r (a - b) := by
  have hla := digs_len ha
  have hcmp := cmp_ok K (d + 1) H hv hw (by omega) (by omega)
  obtain ⟨x, rfl, hx, _⟩ := hv
  obtain ⟨y, rfl, hy, _⟩ := hw
  show ∃ r H', f61 slow K (runQ wk tab slow K (d + 2)) (.agg [x]) (.agg [y]) H = _ ∧ _
  simp only [f61, z_bbox, z_lload1, hcmp, z_call, z_lss]
  by_cases h : a < b
  · have hc : cmpN a b < 0 := by simp [cmpN, h]
    simp only [decide_eq_true hc, z_cond, cond_true, z_build0, z_bst1, z_resc1, if_pos h]
    refine ⟨_, H, rfl, Fr.refl _ _, _, rfl, ?_, rfl⟩
    rw [show a - b = 0 by omega, digs_zero]
    exact Arr.nil H
  · have hc : ¬ cmpN a b < 0 := by unfold cmpN; rw [if_neg h]; split <;> omega
    simp only [decide_eq_false hc, z_cond, cond_false, z_lfld, z_lld0, blen hx, if_neg h]
    obtain ⟨u, H1, h1, w1, f1, ru, _, _⟩ := z_makeW (H := H) (lo := H.size) (Nat.le_refl _) 4 (.int .u32 0) (digs a).length (by omega) (roomy_small (by omega)) .i64 .i64
    obtain ⟨H2, h2, w2, f2, sz2, _⟩ := wr_copy w1 (hx.fr f1) (by simp)
    have e : limbs (digs a) ++ (List.replicate (digs a).length (SV.int .u32 0)).drop (limbs (digs a)).length = limbs ([] ++ digs a) := by simp [limbs]
    rw [e] at w2
    have hbl : (digs b).length ≤ (digs a).length := by
      apply Nat.le_of_not_lt
      intro hlt
      exact h (val_cmp_len hlt)
    obtain ⟨H3, res, h3, f3, w3, s3, v3, l3⟩ := less_loop (runQ wk tab slow K (d + 2)) K d H.size hy rfl (digs_small b) (n := (digs a).length) (by omega) hbl (S := a - b) (digs a).length 0 K 0 H2 [] (digs a) (by omega) (by omega) (by omega) rfl (digs_small a) (fun q hq => by cases hq) rfl (Fr.trans f1 f2) w2 (by rw [List.drop_zero, val_digs, val_digs]; simp [val]; omega) (by rw [List.drop_zero, val_digs, val_digs]; omega)
    obtain ⟨sl, h4, h5⟩ := cut_ok K (d + 1) H3 (ds := res) w3.arr s3 ru (by omega) (by omega)
    rw [h1, h2]
    have e3 : runQ wk tab slow K (d + 2) 68 [u, y] H2 = some (.tuple [], H3) := by
      show f68 slow K (runQ wk tab slow K (d + 1)) u y H2 = _
      unfold f68
      rw [w2.arr.len]
      have e4 : (limbs ([] ++ digs a)).length = (digs a).length := by simp
      rw [e4]
      exact h3
    have hnat := h5.isNat
    rw [v3] at hnat
    simp only [e3, z_call, h4, z_bst1, z_resc1]
    exact ⟨_, H3, rfl, f3, hnat⟩

/-! ### Mul -/
theorem zeros_get {o : List Nat} {n k : Nat} (h : ∀ j, n ≤ j → j < o.length → o[j]? = some 0) (hk : n ≤ k) (hl : k < o.length) : o[k]? = some 0 := h k hk hl
theorem prod_in (C : CallC) (K : Nat) (lo : Nat) {H0 : Heap} {v w nb : SV} {as_ bs : List Nat} (va : SV) (hw : Arr H0 w (limbs bs)) (hlo : lo = H0.size) (hbs : Small bs) (k22 : SV → SV → SV → SV → SV → SV → Heap → Rs) {i la x : Nat} (hx : x < B) (hi : i < la) (hla : la < 100000) (hlb : bs.length < 100000) {r : Nat} {S : Nat} : ∀ (m j fuel : Nat) (c : Nat) (H : Heap) (o : List Nat), j + m = bs.length → m < fuel → c < B → Small o → o.length = la + bs.length → Frame H0 H → Wr lo H v r [] (limbs o) [] → (∀ q, i + bs.length ≤ q → q < o.length → o[q]? = some 0) → val o + B ^ (i + j) * (c + x * val (bs.drop j)) = S →
    ∃ o' H', slow.loop12 (f66_l3 slow K C k22) fuel (.box [w]) nb v (i64 i) (u32 x) (u64 c) va (i64 la) (i64 i) w (i64 bs.length) (i64 j) H = k22 (.box [w]) nb v va (i64 la) (i64 (i + 1)) H' ∧ Frame H0 H' ∧ Wr lo H' v r [] (limbs o') [] ∧ Small o' ∧ o'.length = la + bs.length ∧ val o' = S ∧ (∀ q, i + 1 + bs.length ≤ q → q < o'.length → o'[q]? = some 0)
  | 0, j, fuel, c, H, o, hij, hf, hc, hos, hol, hfr, hwr, hz, hv => by
    obtain ⟨fuel, rfl⟩ : ∃ m, fuel = m + 1 := ⟨fuel - 1, by omega⟩
    have hj : j = bs.length := by omega
    subst hj
    have hw' := hw.fr hfr
    have h0 : o[i + bs.length]? = some 0 := hz _ (Nat.le_refl _) (by omega)
    have hcB : c % 4294967296 = c := Nat.mod_eq_of_lt hc
    obtain ⟨H1, st, hw1, f1, sz1, _⟩ := hwr.store (i := i + bs.length) (by simp; omega) (x := u32 c) rfl .i64
    rw [limbs_set] at hw1
    have hvs := val_set (z := c) h0
    rw [List.drop_length] at hv
    refine ⟨o.set (i + bs.length) c, H1, ?_, Fr.trans hfr (by rw [← hlo]; exact f1), hw1, small_set hos hc, by simpa using hol, ?_, fun q h1 h2 => ?_⟩
    · rw [z_loop12]
      have hlt : ¬ (bs.length < bs.length) := Nat.lt_irrefl _
      simp only [f66_l3, n_lss, decide_eq_false hlt, z_cond, cond_false, z_lfld, z_lld0, blen hw']
      rw [n_addi _ (by omega), n_conv32, hcB, st, show (SV.int .i64 1) = i64 1 from rfl, n_addi _ (by omega)]
    · simp only [val, Nat.mul_zero, Nat.add_zero, Nat.zero_mul] at hv hvs
      rw [hvs, ← hv, Nat.mul_comm c]
    · rw [List.getElem?_set_ne (by omega)]
      exact hz q (by omega) (by simpa using h2)
  | m + 1, j, fuel, c, H, o, hij, hf, hc, hos, hol, hfr, hwr, hz, hv => by
    obtain ⟨fuel, rfl⟩ : ∃ m, fuel = m + 1 := ⟨fuel - 1, by omega⟩
    have hlt : j < bs.length := by omega
    have hw' := hw.fr hfr
    obtain ⟨y, hy⟩ : ∃ y, bs[j]? = some y := ⟨_, List.getElem?_eq_getElem hlt⟩
    have hyB : y < 4294967296 := hbs y (List.mem_of_getElem? hy)
    have hdb : bs.drop j = y :: bs.drop (j + 1) := List.drop_eq_getElem?_toList_append (l := bs) (i := j) ▸ by rw [hy]; rfl
    obtain ⟨z, hz1⟩ : ∃ z, o[i + j]? = some z := ⟨_, List.getElem?_eq_getElem (by omega)⟩
    have hzB : z < 4294967296 := hos z (List.mem_of_getElem? hz1)
    have hxB : x < 4294967296 := hx
    have hcB : c < 4294967296 := hc
    have hxy : x * y ≤ 4294967295 * 4294967295 := Nat.mul_le_mul (by omega) (by omega)
    have hdm := Nat.mod_add_div (c + (x * y + z)) 4294967296
    obtain ⟨H1, st, hw1, f1, sz1, _⟩ := hwr.store (i := i + j) (by simp; omega) (x := u32 ((c + (x * y + z)) % 4294967296)) rfl .i64
    rw [limbs_set] at hw1
    have hvs := val_set (z := (c + (x * y + z)) % 4294967296) hz1
    have hlo1 : (c + (x * y + z)) % 4294967296 < B := Nat.mod_lt _ (by decide)
    have hhi1 : (c + (x * y + z)) / 2 ^ 32 < B := by
      show _ < 4294967296
      omega
    obtain ⟨o', H', h1, h2, h3, h4, h5, h6, h7⟩ := prod_in C K lo va hw hlo hbs k22 (nb := nb) (as_ := as_) hx hi hla hlb (S := S) m (j + 1) fuel ((c + (x * y + z)) / 2 ^ 32) H1 (o.set (i + j) ((c + (x * y + z)) % 4294967296)) (by omega) (by omega) hhi1 (small_set hos hlo1) (by simpa using hol) (Fr.trans hfr (by rw [← hlo]; exact f1)) hw1 (fun q q1 q2 => by
        rw [List.getElem?_set_ne (by omega)]
        exact hz q q1 (by simpa using q2)) (by
        rw [← hv, hdb]
        simp only [val]
        rw [show i + (j + 1) = (i + j) + 1 by omega, Nat.pow_succ]
        have e : c + (x * y + z) = (c + (x * y + z)) % 4294967296 + B * ((c + (x * y + z)) / 2 ^ 32) := hdm.symm
        generalize (c + (x * y + z)) % 4294967296 = p at *
        generalize (c + (x * y + z)) / 2 ^ 32 = q at *
        generalize val (bs.drop (j + 1)) = bv at *
        generalize B ^ (i + j) = P at *
        have e2 : P * (c + (x * y + z)) = P * (p + B * q) := by rw [e]
        have e3 : x * (B * bv) = B * (x * bv) := by rw [← Nat.mul_assoc, Nat.mul_comm x B, Nat.mul_assoc]
        simp only [Nat.mul_add, Nat.mul_assoc, e3] at e2 hvs ⊢
        rw [Nat.mul_comm z P, Nat.mul_comm p P] at hvs
        omega)
    refine ⟨o', H', ?_, h2, h3, h4, h5, h6, h7⟩
    rw [z_loop12]
    simp only [f66_l3, n_lss, decide_eq_true hlt, z_cond, cond_true, hw'.load (limbs_get hy)]
    rw [n_conv64 _ .u32 x (by omega), n_conv64 _ .u32 y (by omega), n_mul64 _ (by omega), n_addi _ (by omega), hwr.arr.load (limbs_get hz1), n_conv64 _ .u32 z (by omega), n_add64 _ (by omega), n_add64 _ (by omega)]
    rw [n_addi _ (by omega), n_conv32, st, show (SV.int .u64 32) = SV.int .u64 ((32 : Nat) : Int) from rfl, n_shr _ .u64 .u64 _ 32 (by decide), show (SV.int .i64 1) = i64 1 from rfl, n_addi _ (by omega)]
    exact h1
theorem prod_out (K : Nat) (d : Nat) (lo : Nat) {H0 : Heap} {v va w : SV} {xs bs : List Nat} (ha : Arr H0 va (limbs xs)) (hw : Arr H0 w (limbs bs)) (hlo : lo = H0.size) (hxs : Small xs) (hbs : Small bs) (hla : xs.length < 100000) (hlb : bs.length < 100000) (hK : 200000 < K) (hroot : Root v) {r : Nat} : ∀ (m i fuel : Nat) (H : Heap) (o : List Nat), i + m = xs.length → m < fuel → Small o → o.length = xs.length + bs.length → Frame H0 H → Wr lo H v r [] (limbs o) [] → (∀ q, i + bs.length ≤ q → q < o.length → o[q]? = some 0) → val o + B ^ i * (val (xs.drop i) * val bs) = val xs * val bs →
    ∃ rr H', slow.loop6 (f66_l1 slow K (runQ wk tab slow K (d + 1))) fuel (.box [w]) (.box [.slice nilSl]) v va (i64 xs.length) (i64 i) H = some (rr, H') ∧ Frame H0 H' ∧ IsNat H' rr (val xs * val bs)
  | 0, i, fuel, H, o, hij, hf, hos, hol, hfr, hwr, hz, hv => by
    obtain ⟨fuel, rfl⟩ : ∃ m, fuel = m + 1 := ⟨fuel - 1, by omega⟩
    have hi : i = xs.length := by omega
    subst hi
    rw [List.drop_length] at hv
    have hvo : val o = val xs * val bs := by simpa [val] using hv
    obtain ⟨sl, h2, h3⟩ := cut_ok K d H (ds := o) hwr.arr hos hroot (by omega) (by omega)
    have hnat := h3.isNat
    rw [hvo] at hnat
    rw [z_loop6]
    have hlt : ¬ (xs.length < xs.length) := Nat.lt_irrefl _
    simp only [f66_l1, n_lss, decide_eq_false hlt, z_cond, cond_false, h2, z_call, z_bst1, z_resc1]
    exact ⟨_, H, rfl, hfr, hnat⟩
  | m + 1, i, fuel, H, o, hij, hf, hos, hol, hfr, hwr, hz, hv => by
    obtain ⟨fuel, rfl⟩ : ∃ m, fuel = m + 1 := ⟨fuel - 1, by omega⟩
    have hlt : i < xs.length := by omega
    obtain ⟨x, hx⟩ : ∃ x, xs[i]? = some x := ⟨_, List.getElem?_eq_getElem hlt⟩
    have hdx : xs.drop i = x :: xs.drop (i + 1) := List.drop_eq_getElem?_toList_append (l := xs) (i := i) ▸ by rw [hx]; rfl
    have ha' := ha.fr hfr
    have hw' := hw.fr hfr
    obtain ⟨o', H1, h1, f1, w1, s1, l1, v1, z1⟩ := prod_in (runQ wk tab slow K (d + 1)) K lo (nb := .box [.slice nilSl]) (as_ := xs) va hw hlo hbs (slow.loop6 (f66_l1 slow K (runQ wk tab slow K (d + 1))) fuel) (i := i) (la := xs.length) (x := x) (hxs x (List.mem_of_getElem? hx)) hlt hla hlb (S := val o + B ^ i * (x * val bs)) bs.length 0 K 0 H o (by omega) (by omega) (by decide) hos hol hfr hwr hz (by rw [List.drop_zero]; simp)
    obtain ⟨rr, H2, h2, f2, n2⟩ := prod_out K d lo ha hw hlo hxs hbs hla hlb hK hroot m (i + 1) fuel H1 o' (by omega) (by omega) s1 l1 f1 w1 z1 (by
      rw [v1, ← hv, hdx, Nat.pow_succ]
      simp only [val]
      generalize val (xs.drop (i + 1)) = xv
      generalize val bs = bv
      generalize B ^ i = P
      simp only [Nat.mul_add, Nat.add_mul, Nat.mul_assoc]
      omega)
    refine ⟨rr, H2, ?_, f2, n2⟩
    rw [z_loop6]
    simp only [f66_l1, n_lss, decide_eq_true hlt, z_cond, cond_true, ha'.load (limbs_get hx), z_lfld, z_lld0, blen hw']
    rw [show (SV.int .u64 0) = u64 0 from rfl, show (SV.int .i64 0) = i64 0 from rfl, h1]
    exact h2
theorem product_ok (K : Nat) (d : Nat) (H : Heap) {v w : SV} {a b : Nat} (hv : IsNat H v a) (hw : IsNat H w b) (hK : 200000 < K) (ha : a < 2 ^ 4096) (hb : b < 2 ^ 4096) :
    ∃ r H', runQ wk tab slow K (d + 2) 66 [v, w] H = some (r, H') ∧ Frame H H' ∧ IsNat H' r (a * b) := by
  have hla := digs_len ha
  have hlb := digs_len hb
  obtain ⟨x, rfl, hx, _⟩ := hv
  obtain ⟨y, rfl, hy, _⟩ := hw
  show ∃ r H', f66 slow K (runQ wk tab slow K (d + 1)) (.agg [x]) (.agg [y]) H = _ ∧ _
  simp only [f66, z_bbox, z_lfld, z_lld0, blen hx, blen hy]
  rw [n_addi _ (by omega)]
  obtain ⟨u, H1, h1, w1, f1, ru, _, _⟩ := z_makeW (H := H) (lo := H.size) (Nat.le_refl _) 4 (.int .u32 0) ((digs a).length + (digs b).length) (by omega) (roomy_small (by omega)) .i64 .i64
  rw [limbs_zeros] at w1
  rw [h1]
  have := prod_out K d H.size hx hy rfl (digs_small a) (digs_small b) (by omega) (by omega) hK ru (digs a).length 0 K H1 (List.replicate ((digs a).length + (digs b).length) 0) (by omega) (by omega) (small_zeros _) (by simp) f1 w1 (fun q _ h => by rw [List.getElem?_replicate]; rw [List.length_replicate] at h; rw [if_pos h]) (by rw [val_zeros, List.drop_zero]; simp)
  rw [val_digs, val_digs] at this
  exact this
/-- The factors' bits tell whether a product is too long. -/
theorem bits_mul {a b : Nat} (hba' : bl a ≤ 4096) (hbb' : bl b ≤ 4096) (h : bl a + bl b > 4097) : ¬ a * b < 2 ^ 4096 := by
  intro hlt
  have hz : bl 0 = 0 := rfl
  have ha : a ≠ 0 := fun e => by subst e; omega
  have hb : b ≠ 0 := fun e => by subst e; omega
  have h1 : 2 ^ (bl a - 1) ≤ a := by
    unfold bl; rw [if_neg ha]; exact Nat.log2_self_le ha
  have h2 : 2 ^ (bl b - 1) ≤ b := by
    unfold bl; rw [if_neg hb]; exact Nat.log2_self_le hb
  have h3 : 2 ^ ((bl a - 1) + (bl b - 1)) ≤ a * b := by rw [Nat.pow_add]; exact Nat.mul_le_mul h1 h2
  have hba : 1 ≤ bl a := by unfold bl; rw [if_neg ha]; omega
  have hbb : 1 ≤ bl b := by unfold bl; rw [if_neg hb]; omega
  have h4 : 2 ^ 4096 ≤ 2 ^ ((bl a - 1) + (bl b - 1)) := pow_mono2 4096 _ (by omega)
  exact absurd hlt (Nat.not_lt.2 (Nat.le_trans h4 h3))
theorem lt_B2 {m k l a b : Nat} (h : 32 * m = k + l) (ha : a < 2 ^ k) (hb : b < 2 ^ l) : a * b < B ^ m := by
  rw [pow_B2 h]
  exact Nat.mul_lt_mul'' ha hb
theorem mul_nat_ok (K : Nat) (d : Nat) (H : Heap) {v w : SV} {a b : Nat} (hv : IsNat H v a) (hw : IsNat H w b) (hK : 200000 < K) (ha : a < 2 ^ 4096) (hb : b < 2 ^ 4096) :
    ∃ r H', runQ wk tab slow K (d + 4) 58 [v, w] H = some (.tuple [r, .int .i64 (if a * b < 2 ^ 4096 then 0 else 3)], H') ∧ Frame H H' ∧ IsNat H' r (if a * b < 2 ^ 4096 then a * b else 0) := by
  have hla := digs_len ha
  have hlb := digs_len hb
  have b1 := bits_ok K (d + 1) H hv (by omega)
  have b2 := bits_ok K (d + 1) H hw (by omega)
  obtain ⟨p, H1, h1, f1, n1⟩ := product_ok K (d + 1) H hv hw hK ha hb
  have hpl : (digs (a * b)).length ≤ 256 := digs_len_le (k := 256) (by
    exact lt_B2 (k := 4096) (l := 4096) rfl ha hb)
  obtain ⟨rr, h2, n2⟩ := fits_ok K d H1 n1 (by omega)
  have hbla : bl a ≤ 4096 := bl_le.2 ha
  have hblb : bl b ≤ 4096 := bl_le.2 hb
  obtain ⟨x, rfl, hx, hxf⟩ := hv
  obtain ⟨y, rfl, hy, hyf⟩ := hw
  show ∃ r H', f58 slow K (runQ wk tab slow K (d + 3)) (.agg [x]) (.agg [y]) H = _ ∧ _
  simp only [f58, z_bbox, z_lload1, b1, b2, z_call]
  rw [n_addi _ (by omega), show (SV.int .i64 4097) = i64 4097 from rfl, n_gtr, z_cond]
  by_cases h : bl a + bl b > 4097
  · have hne := bits_mul hbla hblb h
    simp only [decide_eq_true h, cond_true, z_build0, z_bst1, z_resc1, if_neg hne]
    exact ⟨_, H, rfl, Fr.refl _ _, _, rfl, by rw [digs_zero]; exact Arr.nil H, rfl⟩
  · obtain ⟨sl, rfl, n3, n4⟩ := n2
    simp only [decide_eq_false h, cond_false, h1, z_call, h2, z_ext0, z_ext1, z_bst1, z_resc1, z_rest_int]
    exact ⟨_, H1, rfl, f1, sl, rfl, n3, n4⟩
end Go.Sh.Of

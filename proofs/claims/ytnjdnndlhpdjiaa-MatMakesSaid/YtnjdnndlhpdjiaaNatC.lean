/- Contracts of the package nat: Add, Sub, Mul. -/
import Derived.Test.YtnjdnndlhpdjiaaNatA
set_option linter.unusedVariables false
set_option linter.unusedSimpArgs false
namespace Go.Sh.Of
open Go

section
variable (k : K1)
theorem n_xor32 {a b : Nat} (ha : a < 4294967296) (hb : b < 4294967296) : slow.xor (u32 a) (u32 b) k = k (u32 (a ^^^ b)) := by
  rw [← qXor_eq]
  show nK .u32 (.ofNat (Nat.xor (Nat.mod a (Nat.pow 2 32)) (Nat.mod b (Nat.pow 2 32)))) k = _
  have e : Nat.xor (Nat.mod a (Nat.pow 2 32)) (Nat.mod b (Nat.pow 2 32)) = a ^^^ b := by
    show (a % 2 ^ 32) ^^^ (b % 2 ^ 32) = a ^^^ b
    rw [Nat.mod_eq_of_lt ha, Nat.mod_eq_of_lt hb]
  have hlt : (a ^^^ b) < 4294967296 := Nat.xor_lt_two_pow (n := 32) ha hb
  rw [nK_eq, e, wrapB, Int.ofNat_eq_natCast, wrap_u32, Nat.mod_eq_of_lt hlt]
theorem n_and32 {a b : Nat} (ha : a < 4294967296) (hb : b < 4294967296) : slow.and (u32 a) (u32 b) k = k (u32 (a &&& b)) := by
  rw [← qAnd_eq]
  show nK .u32 (.ofNat (Nat.land (Nat.mod a (Nat.pow 2 32)) (Nat.mod b (Nat.pow 2 32)))) k = _
  have e : Nat.land (Nat.mod a (Nat.pow 2 32)) (Nat.mod b (Nat.pow 2 32)) = a &&& b := by
    show (a % 2 ^ 32) &&& (b % 2 ^ 32) = a &&& b
    rw [Nat.mod_eq_of_lt ha, Nat.mod_eq_of_lt hb]
  have hlt : (a &&& b) < 4294967296 := Nat.lt_of_le_of_lt Nat.and_le_left ha
  rw [nK_eq, e, wrapB, Int.ofNat_eq_natCast, wrap_u32, Nat.mod_eq_of_lt hlt]
theorem n_or32 {a b : Nat} (ha : a < 4294967296) (hb : b < 4294967296) : slow.or (u32 a) (u32 b) k = k (u32 (a ||| b)) := by
  rw [← qOr_eq]
  show nK .u32 (.ofNat (Nat.lor (Nat.mod a (Nat.pow 2 32)) (Nat.mod b (Nat.pow 2 32)))) k = _
  have e : Nat.lor (Nat.mod a (Nat.pow 2 32)) (Nat.mod b (Nat.pow 2 32)) = a ||| b := by
    show (a % 2 ^ 32) ||| (b % 2 ^ 32) = a ||| b
    rw [Nat.mod_eq_of_lt ha, Nat.mod_eq_of_lt hb]
  have hlt : (a ||| b) < 4294967296 := Nat.or_lt_two_pow (n := 32) ha hb
  rw [nK_eq, e, wrapB, Int.ofNat_eq_natCast, wrap_u32, Nat.mod_eq_of_lt hlt]
theorem n_not32 {a : Nat} (ha : a < 4294967296) : slow.u_xor (u32 a) k = k (u32 (4294967295 ^^^ a)) := by
  rw [← n_xor32 k (by decide) ha]
  rfl
end
theorem top_bit {n : Nat} (h : n < 4294967296) : n / 2 ^ 31 = (n.testBit 31).toNat := by
  rw [Nat.testBit_eq_decide_div_mod_eq]
  have : n / 2 ^ 31 < 2 := by omega
  by_cases h1 : n / 2 ^ 31 % 2 = 1
  · rw [decide_eq_true h1]; show _ = 1; omega
  · rw [decide_eq_false h1]; show _ = 0; omega
theorem bit31 {n : Nat} (h : n < 4294967296) : n.testBit 31 = decide (2147483648 ≤ n) := by
  rw [Nat.testBit_eq_decide_div_mod_eq]
  exact decide_eq_decide.2 (by omega)
/-- Sub32: the difference, and what is borrowed. -/
theorem sub32_ok (K : Nat) (d : Nat) (H : Heap) {x y c : Nat} (hx : x < 4294967296) (hy : y < 4294967296) (hc : c ≤ 1) :
    runQ wk tab slow K (d + 1) 73 [u32 x, u32 y, u32 c] H = some (.tuple [u32 ((x + 2 * 4294967296 - y - c) % 4294967296), u32 (if x < y + c then 1 else 0)], H) := by
  show f73 slow K (runQ wk tab slow K d) (u32 x) (u32 y) (u32 c) H = _
  unfold f73
  have e1 : ((x + 4294967296 - y) % 4294967296 + 4294967296 - c) % 4294967296 = (x + 2 * 4294967296 - y - c) % 4294967296 := by omega
  rw [n_sub32 _ hx hy, n_sub32 _ (Nat.mod_lt _ (by decide)) (by omega), e1]
  generalize hz : (x + 2 * 4294967296 - y - c) % 4294967296 = z
  have hzlt : z < 4294967296 := by rw [← hz]; exact Nat.mod_lt _ (by decide)
  have hn : (4294967295 ^^^ x) < 4294967296 := Nat.xor_lt_two_pow (n := 32) (by decide) hx
  have hxy : (x ^^^ y) < 4294967296 := Nat.xor_lt_two_pow (n := 32) hx hy
  have hnxy : (4294967295 ^^^ (x ^^^ y)) < 4294967296 := Nat.xor_lt_two_pow (n := 32) (by decide) hxy
  have ha1 : (4294967295 ^^^ x) &&& y < 4294967296 := Nat.lt_of_le_of_lt Nat.and_le_left hn
  have ha2 : (4294967295 ^^^ (x ^^^ y)) &&& z < 4294967296 := Nat.lt_of_le_of_lt Nat.and_le_left hnxy
  have hor : ((4294967295 ^^^ x) &&& y ||| (4294967295 ^^^ (x ^^^ y)) &&& z) < 4294967296 := Nat.or_lt_two_pow (n := 32) ha1 ha2
  rw [n_not32 _ hx, n_and32 _ hn hy, n_xor32 _ hx hy, n_not32 _ hxy, n_and32 _ hnxy hzlt, n_or32 _ ha1 ha2]
  rw [show (SV.int .u64 31) = SV.int .u64 ((31 : Nat) : Int) from rfl, n_shr _ .u32 .u64 _ 31 (by decide)]
  simp only [z_rest_int]
  congr 4
  rw [top_bit hor, Nat.testBit_or, Nat.testBit_and, Nat.testBit_and, Nat.testBit_xor, Nat.testBit_xor, Nat.testBit_xor, bit31 hx, bit31 hy, bit31 hzlt, show Nat.testBit 4294967295 31 = true by decide]
  congr 1
  by_cases h1 : 2147483648 ≤ x <;> by_cases h2 : 2147483648 ≤ y <;> by_cases h3 : 2147483648 ≤ z <;> by_cases h4 : x < y + c <;> simp [h1, h2, h3, h4] <;> omega
theorem val_set : ∀ {o : List Nat} {i d z : Nat}, o[i]? = some d → val (o.set i z) + d * B ^ i = val o + z * B ^ i
  | [], i, d, z, h => by simp at h
  | x :: o, 0, d, z, h => by simp at h; subst h; simp [val]; omega
  | x :: o, i + 1, d, z, h => by
    simp only [List.getElem?_cons_succ] at h
    have ih := val_set (z := z) h
    simp only [List.set_cons_succ, val, Nat.pow_succ]
    have e1 : d * (B ^ i * B) = B * (d * B ^ i) := by rw [← Nat.mul_assoc, Nat.mul_comm]
    have e2 : z * (B ^ i * B) = B * (z * B ^ i) := by rw [← Nat.mul_assoc, Nat.mul_comm]
    rw [e1, e2, Nat.add_assoc, Nat.add_assoc, ← Nat.mul_add, ← Nat.mul_add, ih]
theorem small_set {o : List Nat} (h : Small o) {i z : Nat} (hz : z < B) : Small (o.set i z) := fun d hd => by
  rcases List.mem_or_eq_of_mem_set hd with hd | rfl
  · exact h d hd
  · exact hz
theorem small_zeros (n : Nat) : Small (List.replicate n 0) := fun d hd => by rw [List.eq_of_mem_replicate hd]; decide
/-- A slice is made: ready to be written. -/
theorem z_makeW {H : Heap} {lo : Nat} (hl : lo ≤ H.size) (by_ : Nat) (z : SV) (n : Nat) (hn : n ≤ 1099511627776) (hr : roomy n by_ = true) (kl kc : IntKind) :
    ∃ v H', (∀ k, slow.make 1 by_ [z] (.int kl n) (.int kc n) H k = k v H') ∧ Wr lo H' v H.size [] (List.replicate n z) [] ∧ Frame H H' ∧ Root v ∧ v.flat = true ∧ H'.size = H.size + 1 := by
  refine ⟨.slice ⟨some (H.size, 0), n, none, 0⟩, H.push (newRow 1 (List.replicate n z)), fun k => ?_, ⟨none, 0, 0, by simp, hl, by rw [List.nil_append, List.append_nil]; exact Heap.get_push_self _ _⟩, Fr.push (Nat.le_refl _) _, ⟨_, rfl, .inl rfl⟩, rfl, rfl⟩
  show (opE (.make 1 by_ [z]) [.int kl n, .int kc n] H).bind _ = _
  have hc : 0 ≤ (n : Int) ∧ (n : Int) ≤ n ∧ (n : Int) ≤ 1099511627776 ∧ roomy n by_ = true ∧ 0 < 1 := ⟨by omega, by omega, by omega, hr, by omega⟩
  simp only [opE, Int.toNat_natCast, if_pos hc, Option.bind_some, rep_one]
theorem splice_at (pre cs post ys : List SV) (h : ys.length ≤ cs.length) : splice (pre ++ (cs ++ post)) pre.length ys = some (pre ++ ((ys ++ cs.drop ys.length) ++ post)) := by
  have hle : Nat.ble (pre.length + ys.length) (pre ++ (cs ++ post)).length = true := Nat.ble_eq_true_of_le (by simp; omega)
  simp only [splice, hle, cond_true]
  congr 1
  rw [List.take_left', List.append_assoc]
  · congr 2
    rw [List.drop_append, List.drop_of_length_le (by omega), Nat.add_sub_cancel_left, List.nil_append, List.drop_append_of_le_length h]
  · rfl
/-- copy. -/
theorem wr_copy {lo : Nat} {H : Heap} {v w : SV} {r : Nat} {pre cs post ys : List SV} (h : Wr lo H v r pre cs post) (hw : Arr H w ys) (hl : ys.length ≤ cs.length) :
    ∃ H', (∀ k, slow.copy 1 v w H k = k (i64 ys.length) H') ∧ Wr lo H' v r pre (ys ++ cs.drop ys.length) post ∧ Fr lo H H' ∧ H'.size = H.size ∧ ∀ r', r' ≠ r → H'.get r' = H.get r' := by
  obtain ⟨s, rfl, h2, h3⟩ := hw.elems
  obtain ⟨cap, alt, ver, rfl, h4, h5⟩ := h
  refine ⟨H.set r ⟨2, 1, ver + 1, pre ++ ((ys ++ cs.drop ys.length) ++ post)⟩, fun k => ?_, ⟨cap, alt, ver + 1, by simp [Nat.add_sub_cancel' hl], h4, Heap.get_set_self h5 _⟩, Fr.set h4 _, rfl, fun r' hr' => Heap.get_set_ne _ (Ne.symm hr') _⟩
  show (opE (.copy 1) [.slice ⟨some (r, pre.length), cs.length, cap, alt⟩, .slice s] H).bind _ = _
  have hmin : min s.len cs.length = ys.length := by rw [h2]; exact Nat.min_eq_left hl
  have hs : ({ s with len := ys.length } : Sl) = s := by cases s; simp_all
  have hb2 : Nat.beq 2 2 = true := rfl
  simp only [opE, hmin, hs, h3, Option.bind_some, Heap.write, h5, hb2, cond_true, splice_at pre cs post ys hl, Option.map_some]
theorem limbs_zeros (n : Nat) : List.replicate n (SV.int .u32 0) = limbs (List.replicate n 0) := by simp [limbs]
theorem limbs_set (o : List Nat) (i z : Nat) : (limbs o).set i (u32 z) = limbs (o.set i z) := by simp [limbs, List.map_set]

/-! ### Add -/
theorem get_app_mid {α : Type} (xs : List α) (x : α) (ys : List α) {i : Nat} (h : xs.length = i) : (xs ++ x :: ys)[i]? = some x := by subst h; simp
theorem set_app_mid {α : Type} (xs : List α) (x z : α) (ys : List α) {i : Nat} (h : xs.length = i) : (xs ++ x :: ys).set i z = (xs ++ [z]) ++ ys := by subst h; simp
theorem add_loop (K : Nat) (d : Nat) (lo : Nat) {H0 : Heap} {v w : SV} {bs : List Nat} (hw : Arr H0 w (limbs bs)) (hlo : lo = H0.size) (hbs : Small bs) {n : Nat} (hn : n < 100000) (hbn : bs.length ≤ n) (hK : n < K) (hroot : Root v) {r : Nat} {S : Nat} (hS : S < B ^ n) : ∀ (j i fuel : Nat) (c : Nat) (H : Heap) (res rest : List Nat), i + j = n → j < fuel → c ≤ 1 → rest.length = j → Small rest → Small res → res.length = i → Frame H0 H → Wr lo H v r [] (limbs (res ++ rest)) [] → val res + B ^ i * (c + val rest + val (bs.drop i)) = S →
    ∃ rr H', slow.loop6 (f59_l2 slow K (runQ wk tab slow K (d + 3))) fuel (.box [w]) (.box [.slice nilSl]) v (u64 c) (i64 n) (i64 i) H = some (.tuple [rr, .int .i64 (if S < 2 ^ 4096 then 0 else 3)], H') ∧ Frame H0 H' ∧ IsNat H' rr (if S < 2 ^ 4096 then S else 0)
  | 0, i, fuel, c, H, res, rest, hij, hf, hc, hrl, hrs, hres, hri, hfr, hwr, hv => by
    obtain ⟨fuel, rfl⟩ : ∃ m, fuel = m + 1 := ⟨fuel - 1, by omega⟩
    have hin : i = n := by omega
    subst hin
    have hrest : rest = [] := List.eq_nil_of_length_eq_zero hrl
    subst hrest
    have hdrop : bs.drop i = [] := List.drop_eq_nil_iff.2 hbn
    rw [hdrop] at hv
    rw [List.append_nil] at hwr
    simp only [val, Nat.add_zero] at hv
    have hc0 : c = 0 := by
      cases c with
      | zero => rfl
      | succ c =>
        have : B ^ i * (c + 1) ≥ B ^ i := Nat.le_mul_of_pos_right _ (by omega)
        omega
    subst hc0
    have hvr : val res = S := by omega
    obtain ⟨sl, h2, h3⟩ := cut_ok K (d + 2) H (ds := res) hwr.arr hres hroot (by omega) (by omega)
    have hnat : IsNat H (.agg [sl]) S := by have := h3.isNat; rwa [hvr] at this
    obtain ⟨rr, h4, h5⟩ := fits_ok K d H hnat (by have := digs_len_le hS; omega)
    rw [z_loop6]
    have hlt : ¬ (i < i) := Nat.lt_irrefl i
    obtain ⟨sl2, rfl, h6, h7⟩ := h5
    refine ⟨_, H, ?_, hfr, sl2, rfl, h6, h7⟩
    simp only [f59_l2, n_lss, decide_eq_false hlt, z_cond, cond_false, h2, z_call, h4, z_ext0, z_ext1, z_bst1, z_resc1, z_rest_int]
  | j + 1, i, fuel, c, H, res, rest, hij, hf, hc, hrl, hrs, hres, hri, hfr, hwr, hv => by
    obtain ⟨fuel, rfl⟩ : ∃ m, fuel = m + 1 := ⟨fuel - 1, by omega⟩
    obtain ⟨x, rest, rfl⟩ : ∃ x l, rest = x :: l := by cases rest with | nil => simp at hrl | cons x l => exact ⟨x, l, rfl⟩
    have hxB : x < 4294967296 := hrs x (by simp)
    have hlt : i < n := by omega
    have hget : (limbs (res ++ x :: rest))[i]? = some (u32 x) := limbs_get (get_app_mid _ _ _ hri)
    have hw' := hw.fr hfr
    -- the other digit
    obtain ⟨y, hy, hyB, hstep⟩ : ∃ y, val (bs.drop i) = y + B * val (bs.drop (i + 1)) ∧ y < 4294967296 ∧
        f59_l2 slow K (runQ wk tab slow K (d + 3)) (.box [w]) (.box [.slice nilSl]) v (u64 c) (i64 n) (i64 i) H (slow.loop6 (f59_l2 slow K (runQ wk tab slow K (d + 3))) fuel) = f59_j4 slow K (runQ wk tab slow K (d + 3)) (slow.loop6 (f59_l2 slow K (runQ wk tab slow K (d + 3))) fuel) (.box [w]) (.box [.slice nilSl]) v (u64 (c + x + y)) (i64 i) (i64 n) (i64 i) H := by
      by_cases hib : i < bs.length
      · obtain ⟨y, hy⟩ : ∃ y, bs[i]? = some y := ⟨_, List.getElem?_eq_getElem hib⟩
        have hyB : y < 4294967296 := hbs y (List.mem_of_getElem? hy)
        have hdb : bs.drop i = y :: bs.drop (i + 1) := List.drop_eq_getElem?_toList_append (l := bs) (i := i) ▸ by rw [hy]; rfl
        refine ⟨y, by rw [hdb]; rfl, hyB, ?_⟩
        simp only [f59_l2, n_lss, decide_eq_true hlt, z_cond, cond_true, hwr.arr.load hget]
        rw [n_conv64 _ .u32 x (by omega), n_add64 _ (by omega)]
        simp only [z_lfld, z_lld0, blen hw', n_lss, decide_eq_true hib, z_cond, cond_true, hw'.load (limbs_get hy)]
        rw [n_conv64 _ .u32 y (by omega), n_add64 _ (by omega)]
      · have hdb : bs.drop i = [] := List.drop_eq_nil_iff.2 (by omega)
        have hdb2 : bs.drop (i + 1) = [] := List.drop_eq_nil_iff.2 (by omega)
        refine ⟨0, by rw [hdb, hdb2]; rfl, by decide, ?_⟩
        simp only [f59_l2, n_lss, decide_eq_true hlt, z_cond, cond_true, hwr.arr.load hget]
        rw [n_conv64 _ .u32 x (by omega), n_add64 _ (by omega)]
        simp only [z_lfld, z_lld0, blen hw', n_lss, decide_eq_false hib, z_cond, cond_false, Nat.add_zero]
    obtain ⟨H1, st, hw1, f1, sz1, _⟩ := hwr.store (i := i) (by simp; omega) (x := u32 ((c + x + y) % 4294967296)) rfl .i64
    rw [limbs_set, set_app_mid _ _ _ _ hri] at hw1
    have hdm := Nat.mod_add_div (c + x + y) 4294967296
    obtain ⟨rr, H', h1, h2, h3⟩ := add_loop K d lo hw hlo hbs hn hbn hK hroot hS j (i + 1) fuel ((c + x + y) / 4294967296) H1 (res ++ [(c + x + y) % 4294967296]) rest (by omega) (by omega) (by omega) (by simpa using hrl) (fun z hz => hrs z (by simp [hz])) (fun z hz => by
        rcases List.mem_append.1 hz with hz | hz
        · exact hres z hz
        · rw [List.mem_singleton.1 hz]; exact Nat.mod_lt _ (by decide)) (by simp [hri]) (Fr.trans hfr (by rw [← hlo]; exact f1)) hw1 (by
        rw [← hv, val_append, hri, hy]
        simp only [val, Nat.pow_succ, Nat.mul_zero, Nat.add_zero]
        have : c + x + y = (c + x + y) % 4294967296 + B * ((c + x + y) / 4294967296) := hdm.symm
        generalize (c + x + y) % 4294967296 = lo1 at *
        generalize (c + x + y) / 4294967296 = hi1 at *
        generalize val (bs.drop (i + 1)) = bv
        generalize B ^ i = P at *
        have e : c + (x + B * val rest) + (y + B * bv) = lo1 + B * (hi1 + val rest + bv) := by
          rw [Nat.mul_add, Nat.mul_add]; omega
        rw [e]
        simp only [Nat.mul_add, Nat.mul_assoc]
        omega)
    refine ⟨rr, H', ?_, h2, h3⟩
    rw [z_loop6, hstep]
    unfold f59_j4
    rw [n_conv32, st, show (SV.int .u64 32) = SV.int .u64 ((32 : Nat) : Int) from rfl, n_shr _ .u64 .u64 _ 32 (by decide), show (SV.int .i64 1) = i64 1 from rfl, n_addi _ (by omega)]
    exact h1
/-- What Add and Mul tell of a number: itself, or that it is too long. -/
theorem add_ok (K : Nat) (d : Nat) (H : Heap) {v w : SV} {a b : Nat} (hv : IsNat H v a) (hw : IsNat H w b) (hK : 1000 < K) (ha : a < 2 ^ 4096) (hb : b < 2 ^ 4096) :
    ∃ r H', runQ wk tab slow K (d + 4) 59 [v, w] H = some (.tuple [r, .int .i64 (if a + b < 2 ^ 4096 then 0 else 3)], H') ∧ Frame H H' ∧ IsNat H' r (if a + b < 2 ^ 4096 then a + b else 0) := by
  -- the longer one first
  have main : ∀ (x y : SV) (a b : Nat), Arr H x (limbs (digs a)) → Arr H y (limbs (digs b)) → a < 2 ^ 4096 → (digs b).length ≤ (digs a).length →
      ∃ r H', f59_j1 slow K (runQ wk tab slow K (d + 3)) (.box [x]) (.box [y]) (.box [.slice nilSl]) H = some (.tuple [r, .int .i64 (if a + b < 2 ^ 4096 then 0 else 3)], H') ∧ Frame H H' ∧ IsNat H' r (if a + b < 2 ^ 4096 then a + b else 0) := fun x y a b hx hy ha hl => by
    have hla := digs_len ha
    obtain ⟨u, H1, h1, w1, f1, ru, _, _⟩ := z_makeW (H := H) (lo := H.size) (Nat.le_refl _) 4 (.int .u32 0) ((digs a).length + 1) (by omega) (roomy_small (by omega)) .i64 .i64
    obtain ⟨H2, h2, w2, f2, sz2, _⟩ := wr_copy w1 (hx.fr f1) (by simp)
    rw [limbs_zeros] at w2
    have e : limbs (digs a) ++ (limbs (List.replicate ((digs a).length + 1) 0)).drop (limbs (digs a)).length = limbs ([] ++ (digs a ++ [0])) := by
      simp [limbs]
    rw [e] at w2
    have hvala : val (digs a ++ [0]) = a := by rw [val_append, val_digs]; simp [val]
    have haB : a < B ^ (digs a).length := by have := val_lt (digs_small a); rwa [val_digs] at this
    have hbB : b < B ^ (digs a).length := by
      have := val_lt (digs_small b)
      rw [val_digs] at this
      exact Nat.lt_of_lt_of_le this (Nat.pow_le_pow_right (by decide) hl)
    have hS : a + b < B ^ ((digs a).length + 1) := by
      rw [Nat.pow_succ]
      have : B ^ (digs a).length * 2 ≤ B ^ (digs a).length * B := Nat.mul_le_mul_left _ (by decide)
      omega
    obtain ⟨r, H3, h3, h4, h5⟩ := add_loop K d H.size hy rfl (digs_small b) (n := (digs a).length + 1) (by omega) (by omega) (by omega) ru hS ((digs a).length + 1) 0 K 0 H2 [] (digs a ++ [0]) (by omega) (by omega) (by omega) (by simp) (fun z hz => by
      rcases List.mem_append.1 hz with hz | hz
      · exact digs_small a z hz
      · rw [List.mem_singleton.1 hz]; decide) (fun z hz => by cases hz) rfl (Fr.trans f1 f2) w2 (by rw [hvala, List.drop_zero, val_digs]; simp [val])
    refine ⟨r, H3, ?_, h4, h5⟩
    simp only [f59_j1, z_lfld, z_lld0, blen hx]
    rw [show (SV.int .i64 1) = i64 1 from rfl, n_addi _ (by omega), h1, h2, w2.arr.len]
    have e2 : (limbs ([] ++ (digs a ++ [0]))).length = (digs a).length + 1 := by simp
    rw [e2]
    exact h3
  obtain ⟨x, rfl, hx, _⟩ := hv
  obtain ⟨y, rfl, hy, _⟩ := hw
  show ∃ r H', f59 slow K (runQ wk tab slow K (d + 3)) (.agg [x]) (.agg [y]) H = _ ∧ _
  simp only [f59, z_bbox, z_lfld, z_lld0, blen hx, blen hy, n_lss, z_cond]
  by_cases h : (digs a).length < (digs b).length
  · simp only [decide_eq_true h, cond_true, z_lload1, z_bst1]
    have := main y x b a hy hx hb (by omega)
    rwa [Nat.add_comm b a] at this
  · simp only [decide_eq_false h, cond_false]
    exact main x y a b hx hy ha (by omega)
end Go.Sh.Of

/- DualTwice: the walk. -/
import Derived.Test.YtcfheodfkmelmaaDualB
set_option linter.unusedVariables false
set_option linter.unusedSimpArgs false
set_option exponentiation.threshold 20000
namespace Go.Sh.Of
open Go Go.Sh
theorem lcmRow_congr {f g : Nat -> Nat} {a : Nat} : ∀ {m : Nat}, (∀ j, j < m -> f j = g j) -> lcmRow f m a = lcmRow g m a
 | 0, _ => rfl
 | m + 1, h => by
  show Nat.lcm _ _ = Nat.lcm _ _
  rw [lcmRow_congr fun j hj => h j (by omega), h m (by omega)]
theorem lcmAll_congr {f g : Nat -> Nat -> Nat} {n : Nat} : ∀ {i : Nat}, (∀ x y, x < i -> y < n -> f x y = g x y) -> lcmAll f n i = lcmAll g n i
 | 0, _ => rfl
 | i + 1, h => by
  show lcmRow _ _ _ = lcmRow _ _ _
  rw [lcmAll_congr fun x y hx hy => h x y (by omega) hy]
  exact lcmRow_congr fun j hj => h i j (by omega) hj
theorem qI_congr {n : Nat} {A B : Mx} (h : ∀ i j, i < n -> j < n -> A i j = B i j) {i j : Nat} (hi : i < n) (hj : j < n) : qI n A i j = qI n B i j := by
 unfold qI
 rw [det_congr h]
 have e : adjM (n - 1) A i j = adjM (n - 1) B i j := by
  show alt (i + j) * det (n - 1) (minor2 A j i) = alt (i + j) * det (n - 1) (minor2 B j i)
  congr 1
  refine det_congr fun x y hx hy => ?_
  show A (skip j x) (skip i y) = B (skip j x) (skip i y)
  exact h _ _ (by have := skip_lt (j := j) hx; omega) (by have := skip_lt (j := i) hy; omega)
 rw [e]
theorem lvl_congr {n : Nat} {A B : Mx} (h : ∀ i j, i < n -> j < n -> A i j = B i j) : lvl n A = lvl n B :=
 lcmAll_congr fun x y hx hy => by rw [qI_congr h hx hy]
theorem duaM_congr {n : Nat} {A B : Mx} (h : ∀ i j, i < n -> j < n -> A i j = B i j) {i j : Nat} (hi : i < n) (hj : j < n) : duaM n A i j = duaM n B i j := by
 unfold duaM
 rw [qI_congr h hi hj, lvl_congr h]
theorem duaL_len (A : List (List Int)) : (duaL A).length = A.length := by simp [duaL]
theorem duaL_row {A : List (List Int)} {i : Nat} (hi : i < A.length) : (duaL A)[i]? = some (duaRow A i A.length) := by simp [duaL, hi]
theorem duaRow_at {A : List (List Int)} {i j : Nat} (hj : j < A.length) : (duaRow A i A.length)[j]? = some (duaM A.length (ent A) i j) := by simp [duaRow, hj]
theorem ent_duaL {A : List (List Int)} {i j : Nat} (hi : i < A.length) (hj : j < A.length) : ent (duaL A) i j = duaM A.length (ent A) i j := ent_get (duaL_row hi) (duaRow_at hj)
theorem dua_form {A : List (List Int)} (hF : Form A) (hs : ∀ q t, q < A.length -> t < A.length -> smS (duaM A.length (ent A) q t)) : Form (duaL A) := by
 have h0 := hF.nz (k := A.length) (Nat.le_refl _)
 have hn := hF.sq.n0
 have hp := dua_pd hn (hF.cor.pd hF.sym) h0
 have hsy := dua_sym hF.sym h0
 have hc := Pd.corner hsy hp
 refine ⟨⟨by rw [duaL_len]; exact hn, by rw [duaL_len]; exact hF.sq.n8, fun r hr => ?_, fun r hr z hz => ?_⟩, ?_, ?_⟩
 ·obtain ⟨i, _, rfl⟩ := List.mem_map.1 hr
  rw [duaL_len]
  simp [duaRow]
 ·obtain ⟨i, hi, rfl⟩ := List.mem_map.1 hr
  obtain ⟨j, hj, rfl⟩ := List.mem_map.1 hz
  have : (duaM A.length (ent A) i j).natAbs <= 16384 := hs i j (List.mem_range.1 hi) (List.mem_range.1 hj)
  omega
 ·rw [duaL_len]
  intro i j hi hj
  rw [ent_duaL hi hj, ent_duaL hj hi]
  exact hsy i j hi hj
 ·rw [duaL_len]
  intro k h1 h2
  rw [det_congr (C := duaM A.length (ent A)) fun i j hi hj => ent_duaL (by omega) (by omega)]
  exact hc k h1 h2
theorem form_diag {A : List (List Int)} (hF : Form A) : 0 < ent A 0 0 := by
 have h := hF.cor 1 (Nat.le_refl _) hF.sq.n0
 have e : det 1 (ent A) = ent A 0 0 := by
  show 0 + 1 * (ent A 0 0 * 1) = _
  omega
 rw [e] at h
 exact h
theorem twice_plain {A : List (List Int)} (hF : Form A) (hs : ∀ q t, q < A.length -> t < A.length -> smS (duaM A.length (ent A) q t)) :
  lvl A.length (ent (duaL A)) * content A.length (ent A) = lvl A.length (ent A) /\ ∀ i j, i < A.length -> j < A.length -> duaM A.length (ent (duaL A)) i j * (content A.length (ent A) : Int) = ent A i j := by
 have hD := dua_form hF hs
 have h2 := hD.nz (k := A.length) (by rw [duaL_len]; exact Nat.le_refl _)
 have e : ∀ i j, i < A.length -> j < A.length -> ent (duaL A) i j = duaM A.length (ent A) i j := fun i j hi hj => ent_duaL hi hj
 rw [det_congr e] at h2
 obtain ⟨h3, h4⟩ := dual_twice hF.sq.n0 hF.sym (hF.cor.pd hF.sym) (hF.nz (Nat.le_refl _)) h2 (form_diag hF)
 refine ⟨by rw [lvl_congr e]; exact h3, fun i j hi hj => ?_⟩
 rw [duaM_congr e hi hj]
 exact h4 i j hi hj
def conP (A : List (List Int)) (i j : Nat) : Nat := gcdRow (fun t => (ent A i t).natAbs) j (gcdAll (fun i j => (ent A i j).natAbs) A.length i)
theorem euclid_loop (C : CallC) (K : Nat) {a dv nb u1 u2 u3 u4 : SV} {j : Nat} (hj : j < 1000) (H : Heap) (k44 : SV -> SV -> SV -> SV -> SV -> SV -> SV -> SV -> SV -> Heap -> Rs) : ∀ (x fuel c : Nat), x < fuel ->
  slow.loop10 (f3_l9 slow K C k44) fuel a dv nb (i64 c) (i64 x) u1 u2 u3 u4 (i64 j) H = k44 a dv nb (i64 (Nat.gcd c x)) u1 u2 u3 u4 (i64 (j + 1)) H := by
 intro x
 induction x using Nat.strongRecOn with
 | ind x ih =>
  intro fuel c hf
  obtain ⟨fuel, rfl⟩ : ∃ q, fuel = q + 1 := ⟨fuel - 1, by omega⟩
  have g : ∀ k, slow.gtr (i64 x) (.int .i64 0) k = k (.bool (decide (x > 0))) := fun k => n_gtr k .i64 x 0
  rw [z_loop10]
  by_cases h0 : x > 0
  ·have hm := Nat.mod_lt c h0
   simp only [f3_l9, g, decide_eq_true h0, z_cond, cond_true, n_rem _ .i64 c (show x ≠ 0 by omega)]
   rw [ih (c % x) hm fuel x (by omega), Nat.gcd_comm c x, Nat.gcd_rec x c, Nat.gcd_comm (c % x) x]
  ·have e : x = 0 := by omega
   subst e
   rw [Nat.gcd_zero_right]
   simp only [f3_l9, g, decide_eq_false h0, z_cond, cond_false, w_inc (show j < 1000000 by omega)]
theorem z_negi {z : Int} (h : z.natAbs <= 16384) (k : K1) : slow.u_neg (.int .i64 z) k = k (.int .i64 (-z)) := by
 show (opP (.un .neg) [.int .i64 z]).bind k = _
 simp only [opP, unOp, wrapB, Option.bind_some]
 rw [Int.zero_sub, wrap_i64 (by omega) (by omega)]
theorem z_maxabs (z : Int) (k : K1) : slow.max [.int .i64 z, .int .i64 (-z)] k = k (i64 z.natAbs) := by
 rw [z_max2]
 have e : (if -z > z then -z else z) = (z.natAbs : Int) := by
  split <;> omega
 rw [e]
theorem cont_in (C : CallC) (K : Nat) (hK : 1000000 < K) {H : Heap} {a w dv nb : SV} {A : List (List Int)} (hF : Form A) {i : Nat} (hi : i < A.length) {r : List Int} (hr : A[i]? = some r) (hw : Arr H w (intsL .i64 r)) (k29 : SV -> SV -> SV -> SV -> SV -> SV -> Heap -> Rs) : ∀ (m j fuel : Nat), j + m = A.length -> m < fuel ->
  slow.loop9 (f3_l7 slow K C k29) fuel a dv nb (i64 (conP A i j)) (i64 A.length) (i64 i) w (i64 A.length) (i64 j) H = k29 a dv nb (i64 (conP A (i + 1) 0)) (i64 A.length) (i64 (i + 1)) H
 | 0, j, fuel, hjm, hf => by
  obtain ⟨fuel, rfl⟩ : ∃ q, fuel = q + 1 := ⟨fuel - 1, by omega⟩
  have h8 := hF.sq.n8
  have hlt : ¬ j < A.length := by omega
  have e : j = A.length := by omega
  rw [z_loop9]
  simp only [f3_l7, n_lss, decide_eq_false hlt, z_cond, cond_false, w_inc (show i < 1000000 by omega)]
  rw [e]
  rfl
 | m + 1, j, fuel, hjm, hf => by
  obtain ⟨fuel, rfl⟩ : ∃ q, fuel = q + 1 := ⟨fuel - 1, by omega⟩
  have h8 := hF.sq.n8
  have hlt : j < A.length := by omega
  obtain ⟨r', a1, a2, a3, a4⟩ := hF.sq.at hi hlt
  rw [hr] at a1
  cases a1
  have hl : ∀ k, slow.idx 1 w (i64 j) (fun p => slow.load 1 false p H k) = k (.int .i64 (ent A i j)) := fun k => hw.load (by simp [intsL, a2]) .i64 k
  have hb : (ent A i j).natAbs <= 16384 := by omega
  rw [z_loop9]
  simp only [f3_l7, n_lss, decide_eq_true hlt, z_cond, cond_true, hl, z_negi hb, z_maxabs]
  rw [euclid_loop C K (show j < 1000 by omega) H _ (ent A i j).natAbs K _ (by omega)]
  exact cont_in C K hK hF hi hr hw k29 m (j + 1) fuel (by omega) (by omega)
theorem back_in (C : CallC) (K : Nat) {H : Heap} {a nb bv mb : SV} {A B : List (List Int)} (ha : IsInts2 H a A) (hb : IsInts2 H bv B) (hF : Form A) (hB : B.length = A.length) (hBr : ∀ i j, i < A.length -> j < A.length -> ∃ r, B[i]? = some r /\ r[j]? = some (ent B i j)) {c : Nat} (hc : ∀ i j, i < A.length -> j < A.length -> ent B i j * (c : Int) = ent A i j) {i : Nat} (hi : i < A.length) (k83 : SV -> SV -> SV -> SV -> SV -> SV -> SV -> Heap -> Rs) : ∀ (m j fuel : Nat), j + m = A.length -> m < fuel ->
  slow.loop10 (f3_l21 slow K C k83) fuel a nb (i64 c) bv mb (i64 i) (i64 A.length) (i64 i) (i64 A.length) (i64 j) H = k83 a nb (i64 c) bv mb (i64 A.length) (i64 (i + 1)) H
 | 0, j, fuel, hjm, hf => by
  obtain ⟨fuel, rfl⟩ : ∃ q, fuel = q + 1 := ⟨fuel - 1, by omega⟩
  have h8 := hF.sq.n8
  have hlt : ¬ j < A.length := by omega
  rw [z_loop10]
  simp only [f3_l21, n_lss, decide_eq_false hlt, z_cond, cond_false, w_inc (show i < 1000000 by omega)]
 | m + 1, j, fuel, hjm, hf => by
  obtain ⟨fuel, rfl⟩ : ∃ q, fuel = q + 1 := ⟨fuel - 1, by omega⟩
  have h8 := hF.sq.n8
  have hlt : j < A.length := by omega
  obtain ⟨r, a1, a2, a3, a4⟩ := hF.sq.at hi hlt
  obtain ⟨w, l1, l2⟩ := ints_entry ha a1 a2
  obtain ⟨r', b1, b2⟩ := hBr i j hi hlt
  obtain ⟨w', l3, l4⟩ := ints_entry hb b1 b2
  have e : ∀ k, slow.mul (.int .i64 (ent B i j)) (i64 c) k = k (.int .i64 (ent A i j)) := fun k => by
   rw [show i64 c = .int .i64 (c : Int) from rfl, z_mul, hc i j hi hlt, wrap_i64 (by omega) (by omega)]
  rw [z_loop10]
  simp only [f3_l21, n_lss, decide_eq_true hlt, z_cond, cond_true, l3, l4, e, l1, l2, z_neq, bne_self_eq_false, cond_false, w_inc (show j < 1000000 by omega)]
  exact back_in C K ha hb hF hB hBr hc hi k83 m (j + 1) fuel (by omega) (by omega)
theorem back_out (K : Nat) (hK : 1000000 < K) (d : Nat) {H : Heap} {a bv s s' : SV} {A B : List (List Int)} (ha : IsInts2 H a A) (hb : IsInts2 H bv B) (hF : Form A) (hB : B.length = A.length) (hBr : ∀ i j, i < A.length -> j < A.length -> ∃ r, B[i]? = some r /\ r[j]? = some (ent B i j)) {c N M : Nat} (hc : ∀ i j, i < A.length -> j < A.length -> ent B i j * (c : Int) = ent A i j) (hcl : c < 18446744073709551616) (hn : IsNat H (.agg [s]) N) (hm : IsNat H (.agg [s']) M) (hN : N <= 2 ^ 136) (hM : M <= 2 ^ 136) (hMN : M * c = N) : ∀ (m i fuel : Nat), i + m = A.length -> m < fuel ->
  ∃ H', slow.loop7 (f3_l19 slow K (runQ wk tab slow K (d + 22))) fuel a (.box [s]) (i64 c) bv (.box [s']) (i64 A.length) (i64 i) H = some (.bool true, H')
 | 0, i, fuel, him, hf => by
  obtain ⟨fuel, rfl⟩ : ∃ q, fuel = q + 1 := ⟨fuel - 1, by omega⟩
  have hlt : ¬ i < A.length := by omega
  obtain ⟨x, H1, h1, fr1, n1⟩ := of_ok K (by omega) (d + 20) H hcl
  rw [show d + 20 + 2 = d + 22 from rfl] at h1
  have hcN : c < 2 ^ 4096 := Nat.lt_of_lt_of_le hcl (Nat.pow_le_pow_right (n := 2) (i := 64) (j := 4096) (by decide) (by decide))
  obtain ⟨p, H2, h2, fr2, n2⟩ := mul_nat_ok K (d + 18) H1 (hm.fr fr1) n1 (by omega) (p136 hM) hcN
  rw [show d + 18 + 4 = d + 22 from rfl, hMN, if_pos (p136 hN)] at h2
  rw [hMN, if_pos (p136 hN)] at n2
  have hdg := dg_len (p136 hN)
  have h3 := cmp_ok K (d + 21) H2 n2 ((hn.fr fr1).fr fr2) (by omega) (by omega)
  rw [show d + 21 + 1 = d + 22 from rfl, show cmpN N N = 0 by unfold cmpN; rw [if_neg (Nat.lt_irrefl N), if_neg (Nat.lt_irrefl N)]] at h3
  obtain ⟨p', rfl, _⟩ := id n2
  have b0 : ((0 : Int) == 0) = true := rfl
  refine ⟨H2, ?_⟩
  rw [z_loop7]
  simp only [f3_l19, n_lss, decide_eq_false hlt, z_cond, cond_false, z_lload1, n_conv64 _ .i64 c hcl, h1, z_call, h2, z_ext0, z_ext1, z_bst1, z_eql, b0, z_guard, cond_true, h3, f3_j28, z_rest_bool]
 | m + 1, i, fuel, him, hf => by
  obtain ⟨fuel, rfl⟩ : ∃ q, fuel = q + 1 := ⟨fuel - 1, by omega⟩
  have h8 := hF.sq.n8
  have hlt : i < A.length := by omega
  obtain ⟨H1, h1⟩ := back_out K hK d ha hb hF hB hBr hc hcl hn hm hN hM hMN m (i + 1) fuel (by omega) (by omega)
  refine ⟨H1, ?_⟩
  rw [z_loop7]
  simp only [f3_l19, n_lss, decide_eq_true hlt, z_cond, cond_true, ints_len ha]
  rw [show (SV.int .i64 0) = i64 0 from rfl, back_in (runQ wk tab slow K (d + 22)) K (nb := .box [s]) (mb := .box [s']) ha hb hF hB hBr hc hlt (slow.loop7 (f3_l19 slow K (runQ wk tab slow K (d + 22))) fuel) A.length 0 K (by omega) (by omega)]
  exact h1
theorem conP_le {A : List (List Int)} (hF : Form A) : content A.length (ent A) <= 16384 := by
 have hn := hF.sq.n0
 have h1 : content A.length (ent A) ∣ (ent A 0 0).natAbs := gcdAll_at (f := fun i j => (ent A i j).natAbs) hn hn
 have h2 := form_diag hF
 obtain ⟨r, _, _, h3, h4⟩ := hF.sq.at hn hn
 have := Nat.le_of_dvd (by omega) h1
 omega
theorem cont_out (K : Nat) (hK : 1000000 < K) (d : Nat) {H : Heap} {a dv s : SV} {A : List (List Int)} (ha : IsInts2 H a A) (hdv : IsInts2 H dv (duaL A)) (hn : IsNat H (.agg [s]) (lvl A.length (ent A))) (hF : Form A) (hs : ∀ q t, q < A.length -> t < A.length -> smS (duaM A.length (ent A) q t)) : ∀ (m i fuel : Nat), i + m = A.length -> m < fuel ->
  ∃ H', slow.loop6 (f3_l5 slow K (runQ wk tab slow K (d + 22))) fuel a dv (.box [s]) (i64 (conP A i 0)) (i64 A.length) (i64 i) H = some (.bool true, H')
 | 0, i, fuel, him, hf => by
  obtain ⟨fuel, rfl⟩ : ∃ q, fuel = q + 1 := ⟨fuel - 1, by omega⟩
  have h8 := hF.sq.n8
  have hlt : ¬ i < A.length := by omega
  have e : i = A.length := by omega
  subst e
  have hD := dua_form hF hs
  obtain ⟨hMN, hBA⟩ := twice_plain hF hs
  have hcp := content_pos hF.sq.n0 (form_diag hF)
  have hsB : ∀ i j, i < A.length -> j < A.length -> smS (duaM A.length (ent (duaL A)) i j) := fun i j hi hj => by
   have h1 := congrArg Int.natAbs (hBA i j hi hj)
   rw [Int.natAbs_mul, Int.natAbs_natCast] at h1
   obtain ⟨r, _, _, h3, h4⟩ := hF.sq.at hi hj
   show (duaM A.length (ent (duaL A)) i j).natAbs <= 16384
   exact Nat.le_trans (Nat.le_mul_of_pos_right _ hcp) (by rw [h1]; omega)
  have ec : conP A A.length 0 = content A.length (ent A) := rfl
  rw [ec]
  rcases dual_ok K hK d H hdv hD with ⟨bv, s', H1, h1, fr1, ib, im, _⟩ | ⟨H1, _, _, hns⟩
  ·obtain ⟨H2, h2, fr2⟩ := chk_ok K (by omega) (d + 13) H1 (IsRowsC.fr hdv fr1)
   rw [show d + 13 + 9 = d + 22 from rfl, chk_form.2 hD] at h2
   have hlen : (duaL (duaL A)).length = A.length := by rw [duaL_len, duaL_len]
   have hnz : ∀ k, slow.eql (i64 (content A.length (ent A))) (.int .i64 0) k = k (.bool false) := fun k => by rw [show (SV.int .i64 0) = i64 0 from rfl, n_eql, decide_eq_false (by omega)]
   have F2 := Frame.trans fr1 fr2
   have hle := conP_le hF
   obtain ⟨H3, h3⟩ := back_out K hK d (B := duaL (duaL A)) (c := content A.length (ent A)) (N := lvl A.length (ent A)) (M := lvl (duaL A).length (ent (duaL A))) (IsRowsC.fr ha F2) (IsRowsC.fr ib fr2) hF hlen (fun i j hi hj => by
    have hi' : i < (duaL A).length := by rw [duaL_len]; exact hi
    have hj' : j < (duaL A).length := by rw [duaL_len]; exact hj
    refine ⟨_, duaL_row hi', ?_⟩
    rw [ent_duaL hi' hj']
    exact duaRow_at hj') (fun i j hi hj => by
    have hi' : i < (duaL A).length := by rw [duaL_len]; exact hi
    have hj' : j < (duaL A).length := by rw [duaL_len]; exact hj
    rw [ent_duaL hi' hj', duaL_len]
    exact hBA i j hi hj) (by omega) (hn.fr F2) (im.fr fr2) (lvl_le hF) (lvl_le hD) (by rw [duaL_len]; exact hMN) A.length 0 K (by omega) (by omega)
   refine ⟨H3, ?_⟩
   have b0 : ((0 : Int) != 0) = false := rfl
   have hl2 : ∀ k, slow.len bv k = k (i64 A.length) := fun k => by rw [ints_len ib, hlen]
   rw [z_loop6]
   simp only [f3_l5, n_lss, decide_eq_false hlt, z_cond, cond_false, h1, z_call, z_ext0, z_ext1, z_ext2, z_bst1, z_neq, b0, z_guard, h2, hl2, ints_len ha, bne_self_eq_false, hnz, f3_j17, ints_len (IsRowsC.fr ha F2)]
   exact h3
  ·exact absurd (fun q t hq ht => by
    rw [duaL_len] at hq ht ⊢
    exact hsB q t hq ht) hns
 | m + 1, i, fuel, him, hf => by
  obtain ⟨fuel, rfl⟩ : ∃ q, fuel = q + 1 := ⟨fuel - 1, by omega⟩
  have h8 := hF.sq.n8
  have hlt : i < A.length := by omega
  obtain ⟨H1, h1⟩ := cont_out K hK d ha hdv hn hF hs m (i + 1) fuel (by omega) (by omega)
  obtain ⟨wsA, w1, w2, w3⟩ := IntsW.of ha
  obtain ⟨w, hw⟩ : ∃ w, wsA[i]? = some w := ⟨_, List.getElem?_eq_getElem (by rw [w2]; exact hlt)⟩
  obtain ⟨r, hr⟩ : ∃ r, A[i]? = some r := ⟨_, List.getElem?_eq_getElem hlt⟩
  have hrl := hF.sq.sq r (List.mem_of_getElem? hr)
  have hwr := w3 i w r hw hr
  have l1 := w1.load hw .i64
  have l2 : ∀ k, slow.len w k = k (i64 A.length) := fun k => by rw [hwr.len]; simp [intsL, hrl]
  refine ⟨H1, ?_⟩
  rw [z_loop6]
  simp only [f3_l5, n_lss, decide_eq_true hlt, z_cond, cond_true, l1, l2]
  rw [show (SV.int .i64 0) = i64 0 from rfl, cont_in (runQ wk tab slow K (d + 22)) K hK hF hlt hr hwr (slow.loop6 (f3_l5 slow K (runQ wk tab slow K (d + 22))) fuel) A.length 0 K (by omega) (by omega)]
  exact h1
theorem twice_run (K d : Nat) (H : Heap) (v : SV) : runQ wk tab slow K (d + 23) 3 [v] H = f3 slow K (runQ wk tab slow K (d + 22)) v H := Eq.trans rfl rfl
theorem dtwice_ok (K : Nat) (hK : 1000000 < K) (d : Nat) (H : Heap) {v : SV} {A : List (List Int)} (hv : IsInts2 H v A) (_ : ∀ r ∈ A, ∀ z ∈ r, I64 z) :
  ∃ H', runQ wk tab slow K (d + 23) 3 [v] H = some (.bool true, H') := by
 have hw : ∀ H, runQ wk tab slow K (d + 22) 4 [] H = some (.bool true, H) := fun H => rfl
 rw [twice_run]
 obtain ⟨u, H1, h1, ho, fr1, _, _⟩ := z_lay1 (H := H) (lo := H.size) (Nat.le_refl _) (.slice nilSl) (IsRowsC.flat hv)
 have hv1 : IsInts2 H1 v A := IsRowsC.fr hv fr1
 have hl : ∀ k, slow.len (.slice nilSl) k = k (i64 0) := fun k => (Arr.nil H).len k
 have b0 : ∀ k, slow.eql (i64 0) (.int .i64 0) k = k (.bool true) := fun k => by rw [z_eql]; rfl
 have hbit : ∀ H, runQ wk tab slow K (d + 22) 7 [.agg [.slice nilSl]] H = some (i64 0, H) := fun H => by
  have := bits_ok K (d + 20) H (IsNat.zero H) (by rw [digs_zero]; decide)
  rw [show d + 20 + 2 = d + 22 from rfl] at this
  exact this
 simp only [f3, hw, z_call, z_not, Bool.not_true, z_guard, cond_false, h1]
 rcases beyond23_ok K (by omega) (d + 21) H1 (Ts := [A]) ho.arr (by simp) rfl (fun i u T' hu hT => by
  match i with
  | 0 => simp at hu hT; subst hu hT; exact hv1
  | n + 1 => simp at hu) with h2 | ⟨hfew, h2⟩
 ·refine ⟨H1, ?_⟩
  simp only [h2, z_call, f3_j1, z_cond, cond_true, hw, z_rest_bool]
 ·by_cases hE : chkE A = 0
  ·have hF := chk_form.1 hE
   have h8 := hF.sq.n8
   rcases dual_ok K hK d H1 hv1 hF with ⟨dv, s, H2, h3, fr2, idv, n2, hs⟩ | ⟨H2, h3, fr2, _⟩
   ·obtain ⟨H3, h4⟩ := cont_out K hK d (IsRowsC.fr hv1 fr2) idv n2 hF hs A.length 0 K (by omega) (by omega)
    have e0 : i64 (conP A 0 0) = .int .i64 0 := rfl
    rw [e0] at h4
    refine ⟨H3, ?_⟩
    have c0 : ((0 : Int) != 0) = false := rfl
    simp only [h2, z_call, f3_j1, z_cond, cond_false, h3, z_ext0, z_ext1, z_ext2, z_bst1, z_neq, c0, ints_len hv1]
    exact h4
   ·refine ⟨H2, ?_⟩
    have c0 : ((3 : Int) != 0) = true := rfl
    simp only [h2, z_call, f3_j1, z_cond, cond_false, h3, z_ext0, z_ext1, z_ext2, z_bst1, z_neq, c0, cond_true, hl, b0, z_guard, z_lload1, hbit, f3_j3, z_rest_bool]
  ·obtain ⟨H2, h3, fr2⟩ := dual_no K hK d H1 hv1 hE
   refine ⟨H2, ?_⟩
   have c0 : (chkE A != 0) = true := by simp [hE]
   simp only [h2, z_call, f3_j1, z_cond, cond_false, h3, z_ext0, z_ext1, z_ext2, z_bst1, z_neq, c0, cond_true, hl, b0, z_guard, z_lload1, hbit, f3_j3, z_rest_bool]
end Go.Sh.Of

/- Contracts of the package nat: cut, Of, Bits, fits, Cmp, short. Contracts of the package nat: Text. Contracts of the package nat: Add, Sub, Mul. Contracts of the package nat: Sub, Mul. -/
import Derived.Test.YtcecdmacoklhpaaWk
import Derived.Test.YtcecdmacoklhpaaSh30
set_option linter.unusedVariables false
set_option linter.unusedSimpArgs false
namespace Go.Sh.Of
open Go

theorem limbs_len (ds : List Nat) : (limbs ds).length = ds.length := by simp
theorem limbs_get {ds : List Nat} {i d : Nat} (h : ds[i]? = some d) : (limbs ds)[i]? = some (u32 d) := by simp [h]
theorem blen {H : Heap} {v : SV} {ds : List Nat} (hv : Arr H v (limbs ds)) (k : K1) : slow.len v k = k (i64 ds.length) := by rw [hv.len]; simp
/-- What cut answers: the digits without noughts at the end. -/
def CutOk (H : Heap) (v : SV) (ds : List Nat) (sl : SV) : Prop :=
  Arr H sl (limbs (digs (val ds))) ∧ sl.flat = true ∧ Root sl ∧ ∀ lo r pre post, Wr lo H v r pre (limbs ds) post → ∃ post', Wr lo H sl r pre (limbs (digs (val ds))) post'
theorem cut_end {H : Heap} {v : SV} {ds : List Nat} (hv : Arr H v (limbs ds)) (hs : Small ds) (hr : Root v) {n : Nat} (hn : n ≤ ds.length) (hval : val (ds.take n) = val ds) (hlast : ∀ d, (ds.take n).getLast? = some d → d ≠ 0) :
    ∃ sl, (∀ k, slow.slice011 1 v (i64 n) (i64 n) H k = k sl) ∧ CutOk H v ds sl := by
  obtain ⟨sl, h1, h2, h3, h4, h5⟩ := hv.slice011 (n := n) (by rw [limbs_len]; exact hn) (.inr hr) .i64 .i64
  have e : digs (val ds) = ds.take n := by
    rw [← hval]
    exact digs_val (fun d hd => hs d (List.mem_of_mem_take hd)) hlast
  have e2 : (limbs ds).take n = limbs (digs (val ds)) := by rw [e]; exact List.map_take.symm
  exact ⟨sl, h1, by rw [← e2]; exact h2, h4, h3 hr, fun lo r pre post hw => ⟨_, by rw [← e2]; exact h5 lo r pre post hw⟩⟩
theorem cut_loop (C : CallC) (K : Nat) (H : Heap) {v : SV} {ds : List Nat} (hv : Arr H v (limbs ds)) (hs : Small ds) (hr : Root v) (hb : ds.length < 1000000000) : ∀ (n fuel : Nat), n ≤ ds.length → n < fuel → val (ds.take n) = val ds →
    ∃ sl, slow.loop3 (f50_l1 slow K C) fuel v (.box [.slice nilSl]) (i64 n) H = some (.agg [sl], H) ∧ CutOk H v ds sl
  | 0, fuel, hn, hf, hval => by
    obtain ⟨fuel, rfl⟩ : ∃ m, fuel = m + 1 := ⟨fuel - 1, by omega⟩
    obtain ⟨sl, h1, h2⟩ := cut_end hv hs hr hn hval (fun d hd => by simp at hd)
    refine ⟨sl, ?_, h2⟩
    rw [z_loop3]
    have h00 : ¬ (((0 : Nat) : Int) > 0) := by omega
    simp only [f50_l1, z_gtr, decide_eq_false h00, z_guard, cond_false, f50_j2, z_cond]
    simp only [h1, z_build1 _ _ h2.2.1, z_bst1, z_resc1]
  | n + 1, fuel, hn, hf, hval => by
    obtain ⟨fuel, rfl⟩ : ∃ m, fuel = m + 1 := ⟨fuel - 1, by omega⟩
    obtain ⟨d, hd⟩ : ∃ d, ds[n]? = some d := ⟨_, List.getElem?_eq_getElem (by omega)⟩
    have hpos : (((n + 1 : Nat) : Int)) > 0 := by omega
    have htk : ds.take (n + 1) = ds.take n ++ [d] := by rw [List.take_add_one, hd]; rfl
    rw [z_loop3]
    simp only [f50_l1, z_gtr, decide_eq_true hpos, z_guard, cond_true]
    rw [z_sub64 (by omega) (by omega)]
    have e : (((n + 1 : Nat) : Int) - 1) = (n : Int) := by omega
    rw [e]
    simp only [hv.load (limbs_get hd), z_eql]
    by_cases h0 : d = 0
    · subst h0
      have hb0 : (((0 : Nat) : Int) == 0) = true := rfl
      simp only [hb0, f50_j2, z_cond, cond_true]
      rw [z_sub64 (by omega) (by omega), e]
      exact cut_loop C K H hv hs hr hb n fuel (by omega) (by omega) (by rw [← hval, htk, val_append]; simp [val])
    · have hb0 : ((d : Int) == 0) = false := by simp [h0]
      obtain ⟨sl, h1, h2⟩ := cut_end hv hs hr hn hval (fun d' hd' => by rw [htk] at hd'; simp at hd'; omega)
      refine ⟨sl, ?_, h2⟩
      simp only [hb0, f50_j2, z_cond, cond_false]
      simp only [h1, z_build1 _ _ h2.2.1, z_bst1, z_resc1]
theorem cut_ok (K : Nat) (d : Nat) (H : Heap) {v : SV} {ds : List Nat} (hv : Arr H v (limbs ds)) (hs : Small ds) (hr : Root v) (hK : ds.length < K) (hb : ds.length < 1000000000) :
    ∃ sl, runQ wk tab slow K (d + 1) 50 [v] H = some (.agg [sl], H) ∧ CutOk H v ds sl := by
  show ∃ sl, f50 slow K (runQ wk tab slow K d) v H = _ ∧ _
  simp only [f50, blen hv]
  exact cut_loop _ K H hv hs hr hb ds.length K (Nat.le_refl _) hK (by rw [List.take_length])
theorem CutOk.isNat {H : Heap} {v : SV} {ds : List Nat} {sl : SV} (h : CutOk H v ds sl) : IsNat H (.agg [sl]) (val ds) := ⟨sl, rfl, h.1, h.2.1⟩
/-- Of. -/
theorem of_ok (K : Nat) (hK : 2 < K) (d : Nat) (H : Heap) {n : Nat} (hn : n < 18446744073709551616) :
    ∃ r H', runQ wk tab slow K (d + 2) 59 [u64 n] H = some (r, H') ∧ Frame H H' ∧ IsNat H' r n := by
  show ∃ r H', f59 slow K (runQ wk tab slow K (d + 1)) (u64 n) H = _ ∧ _
  obtain ⟨v, H1, h1, ho, hf, _, _⟩ := z_lay2 (H := H) (lo := H.size) (Nat.le_refl _) (.int .u32 0) (.int .u32 0) (x := u32 (n % 4294967296)) (y := u32 (n / 2 ^ 32 % 4294967296)) rfl rfl
  have hs : Small [n % 4294967296, n / 2 ^ 32 % 4294967296] := by
    intro x hx
    rcases List.mem_cons.1 hx with rfl | hx
    · exact Nat.mod_lt _ (by decide)
    · rcases List.mem_cons.1 hx with rfl | hx
      · exact Nat.mod_lt _ (by decide)
      · cases hx
  obtain ⟨sl, h2, h3⟩ := cut_ok K d H1 (ds := [n % 4294967296, n / 2 ^ 32 % 4294967296]) ho.arr hs ho.root (by simpa using hK) (by simp)
  have hv : val [n % 4294967296, n / 2 ^ 32 % 4294967296] = n := by
    simp only [val, B]; omega
  refine ⟨.agg [sl], H1, ?_, hf, by have := h3.isNat; rwa [hv] at this⟩
  simp only [f59, n_conv32]
  rw [show (SV.int .u64 32) = SV.int .u64 ((32 : Nat) : Int) from rfl, n_shr _ .u64 .u64 n 32 (by decide)]
  simp only [n_conv32, h1, h2, z_call, z_bst1, z_resc1]
/-- How many bits, of a number of the machine. -/
abbrev len8 : List UInt8 := [0, 1, 2, 2, 3, 3, 3, 3, 4, 4, 4, 4, 4, 4, 4, 4, 5, 5, 5, 5, 5, 5, 5, 5, 5, 5, 5, 5, 5, 5, 5, 5, 6, 6, 6, 6, 6, 6, 6, 6, 6, 6, 6, 6, 6, 6, 6, 6, 6, 6, 6, 6, 6, 6, 6, 6, 6, 6, 6, 6, 6, 6, 6, 6, 7, 7, 7, 7, 7, 7, 7, 7, 7, 7, 7, 7, 7, 7, 7, 7, 7, 7, 7, 7, 7, 7, 7, 7, 7, 7, 7, 7, 7, 7, 7, 7, 7, 7, 7, 7, 7, 7, 7, 7, 7, 7, 7, 7, 7, 7, 7, 7, 7, 7, 7, 7, 7, 7, 7, 7, 7, 7, 7, 7, 7, 7, 7, 7, 8, 8, 8, 8, 8, 8, 8, 8, 8, 8, 8, 8, 8, 8, 8, 8, 8, 8, 8, 8, 8, 8, 8, 8, 8, 8, 8, 8, 8, 8, 8, 8, 8, 8, 8, 8, 8, 8, 8, 8, 8, 8, 8, 8, 8, 8, 8, 8, 8, 8, 8, 8, 8, 8, 8, 8, 8, 8, 8, 8, 8, 8, 8, 8, 8, 8, 8, 8, 8, 8, 8, 8, 8, 8, 8, 8, 8, 8, 8, 8, 8, 8, 8, 8, 8, 8, 8, 8, 8, 8, 8, 8, 8, 8, 8, 8, 8, 8, 8, 8, 8, 8, 8, 8, 8, 8, 8, 8, 8, 8, 8, 8, 8, 8, 8, 8, 8, 8, 8, 8, 8, 8, 8, 8, 8, 8, 8, 8]
set_option maxRecDepth 100000 in
theorem len8_all : ∀ n : Fin 256, len8[n.1]? = some (UInt8.ofNat (bl n.1)) := by decide +kernel
theorem bl_small {n k : Nat} (h : n < 2 ^ k) : bl n ≤ k := bl_le.2 h
theorem len8_get {n : Nat} (h : n < 256) : len8[n]? = some (UInt8.ofNat (bl n)) := len8_all ⟨n, h⟩
set_option maxRecDepth 100000 in
theorem len32_ok (K : Nat) (d : Nat) (H : Heap) {n : Nat} (hn : n < 4294967296) : runQ wk tab slow K (d + 1) 58 [u32 n] H = some (i64 (bl n), H) := by
  show f58 slow K (runQ wk tab slow K d) (u32 n) H = _
  have e2 : ∀ (m s : Nat), m < 256 → s < 100 → f58_j2 slow K (runQ wk tab slow K d) (u32 m) (i64 s) H = some (i64 (s + bl m), H) := fun m s hm hs => by
    have hbl : bl m ≤ 8 := bl_small (by simpa using hm)
    have hst : ∀ k, slow.stridx (.str len8) (u8 (m % 256)) k = k (u8 (bl m)) := fun k => by
      have e : (UInt8.ofNat (bl m)).toNat = bl m := by simp; omega
      rw [z_stridx k (len8_get (Nat.mod_lt m (by decide))) .u8, Nat.mod_eq_of_lt hm, e]
    unfold f58_j2
    rw [n_conv8]
    rw [hst, n_convi _ _ _ (by omega), n_addi _ (by omega), z_rest_int]
  have e1 : ∀ (m s : Nat), m < 65536 → s < 50 → f58_j1 slow K (runQ wk tab slow K d) (u32 m) (i64 s) H = some (i64 (s + bl m), H) := fun m s hm hs => by
    unfold f58_j1
    rw [show (SV.int .u32 256) = SV.int .u32 ((256 : Nat) : Int) from rfl, n_geq, z_cond]
    by_cases h : m ≥ 256
    · rw [decide_eq_true h, cond_true, show (SV.int .u64 8) = SV.int .u64 ((8 : Nat) : Int) from rfl, n_shr _ .u32 .u64 m 8 (by decide), show (SV.int .i64 8) = i64 8 from rfl, n_addi _ (by omega), e2 _ _ (by omega) (by omega)]
      rw [bl_shift (show 2 ^ 8 ≤ m from h), Nat.add_assoc]
    · rw [decide_eq_false h, cond_false, e2 _ _ (by omega) (by omega)]
  unfold f58
  rw [show (SV.int .u32 65536) = SV.int .u32 ((65536 : Nat) : Int) from rfl, n_geq, z_cond]
  by_cases h : n ≥ 65536
  · rw [decide_eq_true h, cond_true, show (SV.int .u64 16) = SV.int .u64 ((16 : Nat) : Int) from rfl, n_shr _ .u32 .u64 n 16 (by decide), show (SV.int .i64 16) = i64 16 from rfl, e1 _ _ (by omega) (by omega)]
    rw [bl_shift (show 2 ^ 16 ≤ n from h)]
  · rw [decide_eq_false h, cond_false, show (SV.int .i64 0) = i64 0 from rfl, e1 _ _ (by omega) (by omega), Nat.zero_add]
theorem bits_ok (K : Nat) (d : Nat) (H : Heap) {v : SV} {n : Nat} (hv : IsNat H v n) (hb : (digs n).length < 10000000) : runQ wk tab slow K (d + 2) 39 [v] H = some (i64 (bl n), H) := by
  obtain ⟨sl, rfl, ha, _⟩ := hv
  show f39 slow K (runQ wk tab slow K (d + 1)) (.agg [sl]) H = _
  by_cases h0 : n = 0
  · subst h0
    rw [digs_zero] at ha
    simp only [f39, z_bbox, z_lfld, z_lld0, blen ha, z_eql, z_cond]
    rfl
  · obtain ⟨x, h1, h2, h3, h4⟩ := bl_digs h0
    have hb32 : bl x ≤ 32 := bl_small h3
    have hlen : 0 < (digs n).length := by
      cases hd : digs n with
      | nil => rw [hd] at h1; cases h1
      | cons _ _ => simp
    have hx : (digs n)[(digs n).length - 1]? = some x := by rw [← List.getLast?_eq_getElem?]; exact h1
    have hne : (((digs n).length : Int) == 0) = false := beq_eq_false_iff_ne.2 (by omega)
    simp only [f39, z_bbox, z_lfld, z_lld0, blen ha, z_eql, hne, z_cond, cond_false]
    rw [show (SV.int .i64 1) = i64 1 from rfl, n_subi _ (by omega) (by omega), show (SV.int .i64 32) = i64 32 from rfl, n_muli _ (by omega), n_subi _ (by omega) (by omega)]
    rw [ha.load (limbs_get hx), len32_ok K d H h3, z_call, n_addi _ (by omega), z_rest_int, h4]
/-- fits: the number, or the error. -/
theorem fits_ok (K : Nat) (d : Nat) (H : Heap) {v : SV} {n : Nat} (hv : IsNat H v n) (hb : (digs n).length < 10000000) :
    ∃ r, runQ wk tab slow K (d + 3) 64 [v] H = some (.tuple [r, .int .i64 (if n < 2 ^ 4096 then 0 else 3)], H) ∧ IsNat H r (if n < 2 ^ 4096 then n else 0) := by
  have hbits := bits_ok K d H hv hb
  obtain ⟨sl, rfl, ha, hf⟩ := hv
  show ∃ r, f64 slow K (runQ wk tab slow K (d + 2)) (.agg [sl]) H = _ ∧ _
  simp only [f64, z_bbox, z_lload1, hbits, z_call]
  rw [show (SV.int .i64 4096) = i64 4096 from rfl]
  simp only [n_gtr, z_cond]
  by_cases h : n < 2 ^ 4096
  · have hn : ¬ bl n > 4096 := Nat.not_lt.2 (bl_le.2 h)
    simp only [decide_eq_false hn, cond_false, z_bst1, z_resc1, if_pos h]
    exact ⟨_, rfl, sl, rfl, ha, hf⟩
  · have hn : bl n > 4096 := Nat.lt_of_not_le fun hle => h ((bl_le (k := 4096)).1 hle)
    simp only [decide_eq_true hn, cond_true, z_build0, z_bst1, z_resc1, if_neg h]
    exact ⟨_, rfl, _, rfl, by rw [digs_zero]; exact Arr.nil H, rfl⟩
/-- Which is the greater. -/
def cmpN (a b : Nat) : Int := if a < b then -1 else if a > b then 1 else 0
theorem val_cmp_len {a b : Nat} (h : (digs a).length < (digs b).length) : a < b := by
  have h1 := val_lt (digs_small a)
  rw [val_digs] at h1
  have hb0 : b ≠ 0 := fun e => by subst e; rw [digs_zero] at h; simp at h
  apply Nat.lt_of_not_le
  intro hle
  have : b < B ^ (digs a).length := Nat.lt_of_le_of_lt hle h1
  have := digs_len_le this
  omega
theorem cmp_loop (C : CallC) (K : Nat) (H : Heap) {v w : SV} {xs ys : List Nat} (hv : Arr H v (limbs xs)) (hw : Arr H w (limbs ys)) (hl : xs.length = ys.length) (ha : Small xs) (hb : Small ys) (hlen : xs.length < 1000000000) : ∀ (n fuel : Nat), n ≤ xs.length → n < fuel → val (xs.drop n) = val (ys.drop n) →
    slow.loop3 (f35_l3 slow K C) fuel (.box [v]) (.box [w]) (.int .i64 ((n : Int) - 1)) H = some (.int .i64 (cmpN (val xs) (val ys)), H)
  | 0, fuel, hn, hf, he => by
    obtain ⟨fuel, rfl⟩ : ∃ m, fuel = m + 1 := ⟨fuel - 1, by omega⟩
    rw [z_loop3]
    have h0 : ¬ (((0 : Nat) : Int) - 1 ≥ 0) := by omega
    simp only [f35_l3, z_geq, decide_eq_false h0, z_cond, cond_false]
    simp only [List.drop_zero] at he
    simp [cmpN, he]
  | n + 1, fuel, hn, hf, he => by
    obtain ⟨fuel, rfl⟩ : ∃ m, fuel = m + 1 := ⟨fuel - 1, by omega⟩
    obtain ⟨x, hx⟩ : ∃ x, xs[n]? = some x := ⟨_, List.getElem?_eq_getElem (by omega)⟩
    obtain ⟨y, hy⟩ : ∃ y, ys[n]? = some y := ⟨_, List.getElem?_eq_getElem (by omega)⟩
    have hda : xs.drop n = x :: xs.drop (n + 1) := List.drop_eq_getElem?_toList_append (l := xs) (i := n) ▸ by rw [hx]; rfl
    have hdb : ys.drop n = y :: ys.drop (n + 1) := List.drop_eq_getElem?_toList_append (l := ys) (i := n) ▸ by rw [hy]; rfl
    rw [z_loop3]
    have h0 : (((n + 1 : Nat) : Int) - 1 ≥ 0) := by omega
    have e : (((n + 1 : Nat) : Int) - 1) = (n : Int) := by omega
    simp only [f35_l3, z_geq, decide_eq_true h0, z_cond, cond_true, z_lfld, z_lld0]
    rw [e]
    simp only [hv.load (limbs_get hx), hw.load (limbs_get hy), n_lss, n_gtr, z_cond]
    have hxs := ha x (List.mem_of_getElem? hx)
    have hys := hb y (List.mem_of_getElem? hy)
    have hva : val xs = val (xs.take n) + B ^ n * (x + B * val (xs.drop (n + 1))) := by
      conv => lhs; rw [← List.take_append_drop n xs, val_append, hda]
      rw [List.length_take_of_le (by omega)]; rfl
    have hvb : val ys = val (ys.take n) + B ^ n * (y + B * val (ys.drop (n + 1))) := by
      conv => lhs; rw [← List.take_append_drop n ys, val_append, hdb]
      rw [List.length_take_of_le (by omega)]; rfl
    have hta : val (xs.take n) < B ^ n := by
      have := val_lt (ds := xs.take n) fun d hd => ha d (List.mem_of_mem_take hd)
      rwa [List.length_take_of_le (by omega)] at this
    have htb : val (ys.take n) < B ^ n := by
      have := val_lt (ds := ys.take n) fun d hd => hb d (List.mem_of_mem_take hd)
      rwa [List.length_take_of_le (by omega)] at this
    have key : ∀ p q : Nat, p < q → p + B * val (ys.drop (n + 1)) + 1 ≤ q + B * val (ys.drop (n + 1)) := fun p q h => by omega
    by_cases h1 : x < y
    · simp only [decide_eq_true h1, cond_true]
      have : val xs < val ys := by
        rw [hva, hvb, he]
        have := Nat.mul_le_mul_left (B ^ n) (key x y h1)
        rw [Nat.mul_succ] at this
        omega
      simp [cmpN, this]
    · simp only [decide_eq_false h1, cond_false]
      by_cases h2 : x > y
      · simp only [decide_eq_true h2, cond_true]
        have : val ys < val xs := by
          rw [hva, hvb, he]
          have := Nat.mul_le_mul_left (B ^ n) (key y x h2)
          rw [Nat.mul_succ] at this
          omega
        have h3 : ¬ val xs < val ys := by omega
        simp [cmpN, this, h3]
      · simp only [decide_eq_false h2, cond_false]
        have hxy : x = y := by omega
        rw [z_sub64 (by omega) (by omega)]
        exact cmp_loop C K H hv hw hl ha hb hlen n fuel (by omega) (by omega) (by rw [hda, hdb, val, val, hxy, he])
theorem cmp_ok (K : Nat) (d : Nat) (H : Heap) {v w : SV} {a b : Nat} (hv : IsNat H v a) (hw : IsNat H w b) (hK : (digs a).length < K) (hb : (digs a).length < 1000000000) :
    runQ wk tab slow K (d + 1) 35 [v, w] H = some (.int .i64 (cmpN a b), H) := by
  obtain ⟨x, rfl, hx, _⟩ := hv
  obtain ⟨y, rfl, hy, _⟩ := hw
  show f35 slow K (runQ wk tab slow K d) (.agg [x]) (.agg [y]) H = _
  simp only [f35, z_bbox, z_lfld, z_lld0, blen hx, blen hy, n_neq, n_lss, z_cond]
  by_cases h : (digs a).length = (digs b).length
  · have hne : ¬ ((digs a).length ≠ (digs b).length) := fun hh => hh h
    simp only [decide_eq_false hne, cond_false]
    rw [z_sub64 (by omega) (by omega)]
    have := cmp_loop (runQ wk tab slow K d) K H hx hy h (digs_small a) (digs_small b) hb (digs a).length K (Nat.le_refl _) hK (by rw [List.drop_length, h, List.drop_length])
    rw [val_digs, val_digs] at this
    exact this
  · simp only [decide_eq_true h, cond_true]
    by_cases h2 : (digs a).length < (digs b).length
    · simp only [decide_eq_true h2, cond_true]
      simp [cmpN, val_cmp_len h2]
    · simp only [decide_eq_false h2, cond_false]
      have h3 := val_cmp_len (a := b) (b := a) (by omega)
      have h4 : ¬ a < b := by omega
      simp [cmpN, h3, h4]
/-- Divided by one digit: the quotient's digits, and what is left. -/
def shortL (b : Nat) : List Nat → List Nat × Nat
  | [] => ([], 0)
  | d :: ds => (((shortL b ds).2 * B + d) / b :: (shortL b ds).1, ((shortL b ds).2 * B + d) % b)
theorem shortL_spec {b : Nat} (hb : 0 < b) (hB : b < B) : ∀ {ds : List Nat}, Small ds → (shortL b ds).1.length = ds.length ∧ (shortL b ds).2 < b ∧ val (shortL b ds).1 * b + (shortL b ds).2 = val ds ∧ Small (shortL b ds).1
  | [], _ => ⟨rfl, hb, by simp [shortL, val], fun d hd => by cases hd⟩
  | d :: ds, h => by
    obtain ⟨h1, h2, h3, h4⟩ := shortL_spec hb hB (ds := ds) fun x hx => h x (by simp [hx])
    have hd := h d (by simp)
    have hlt : ((shortL b ds).2 * B + d) / b < B := by
      rw [Nat.div_lt_iff_lt_mul hb]
      have : (shortL b ds).2 * B + B ≤ b * B := by rw [← Nat.succ_mul]; exact Nat.mul_le_mul_right _ h2
      rw [Nat.mul_comm B b]
      omega
    refine ⟨by simp [shortL, h1], Nat.mod_lt _ hb, ?_, ?_⟩
    · simp only [shortL, val]
      have := Nat.div_add_mod ((shortL b ds).2 * B + d) b
      rw [← h3, Nat.add_mul, Nat.mul_add, Nat.mul_assoc B]
      rw [Nat.mul_comm b] at this
      have e : (shortL b ds).2 * B = B * (shortL b ds).2 := Nat.mul_comm _ _
      omega
    · intro x hx
      rcases List.mem_cons.1 hx with rfl | hx
      · exact hlt
      · exact h4 x hx
theorem shortL_val {b : Nat} (hb : 0 < b) (hB : b < B) {ds : List Nat} (h : Small ds) : val (shortL b ds).1 = val ds / b ∧ (shortL b ds).2 = val ds % b := by
  obtain ⟨_, h2, h3, _⟩ := shortL_spec hb hB h
  have := (Nat.div_mod_unique hb (a := val ds) (c := (shortL b ds).2) (d := val (shortL b ds).1)).2 ⟨by rw [← h3, Nat.mul_comm b]; omega, h2⟩
  exact ⟨this.1.symm, this.2.symm⟩
theorem short_loop (C : CallC) (K : Nat) (lo : Nat) {v : SV} {r : Nat} {pre post : List SV} {b : Nat} (hb : 0 < b) (hB : b < B) {ds : List Nat} (hs : Small ds) (hlen : ds.length < 1000000000) : ∀ (n fuel : Nat) (H : Heap), n ≤ ds.length → n < fuel → Wr lo H v r pre (limbs (ds.take n ++ (shortL b (ds.drop n)).1)) post →
    ∃ H', slow.loop4 (f49_l1 slow K C) fuel v (u32 b) (u64 (shortL b (ds.drop n)).2) (.int .i64 ((n : Int) - 1)) H = some (u32 (shortL b ds).2, H') ∧ Wr lo H' v r pre (limbs (shortL b ds).1) post ∧ Fr lo H H' ∧ H'.size = H.size ∧ ∀ r', r' ≠ r → H'.get r' = H.get r'
  | 0, fuel, H, hn, hf, hw => by
    obtain ⟨fuel, rfl⟩ : ∃ m, fuel = m + 1 := ⟨fuel - 1, by omega⟩
    rw [z_loop4]
    have h0 : ¬ (((0 : Nat) : Int) - 1 ≥ 0) := by omega
    have hlt := (shortL_spec hb hB hs).2.1
    have hB' : b < 4294967296 := hB
    simp only [List.drop_zero, List.take_zero, List.nil_append] at hw ⊢
    refine ⟨H, ?_, hw, Fr.refl _ _, rfl, fun _ _ => rfl⟩
    simp only [f49_l1, z_geq, decide_eq_false h0, z_cond, cond_false, n_conv32, z_rest_int]
    rw [Nat.mod_eq_of_lt (by omega)]
  | n + 1, fuel, H, hn, hf, hw => by
    obtain ⟨fuel, rfl⟩ : ∃ m, fuel = m + 1 := ⟨fuel - 1, by omega⟩
    obtain ⟨x, hx⟩ : ∃ x, ds[n]? = some x := ⟨_, List.getElem?_eq_getElem (by omega)⟩
    have hdx : ds.drop n = x :: ds.drop (n + 1) := List.drop_eq_getElem?_toList_append (l := ds) (i := n) ▸ by rw [hx]; rfl
    have hs2 : Small (ds.drop (n + 1)) := fun d hd => hs d (List.mem_of_mem_drop hd)
    obtain ⟨s1, s2, s3, s4⟩ := shortL_spec hb hB hs2
    have hxs := hs x (List.mem_of_getElem? hx)
    have hxB : x < 4294967296 := hxs
    have hbB : b < 4294967296 := hB
    have h0 : (((n + 1 : Nat) : Int) - 1 ≥ 0) := by omega
    have e : (((n + 1 : Nat) : Int) - 1) = (n : Int) := by omega
    have hcur : (ds.take (n + 1) ++ (shortL b (ds.drop (n + 1))).1)[n]? = some x := by
      rw [List.getElem?_append_left (by rw [List.length_take_of_le hn]; omega), List.getElem?_take_of_lt (by omega), hx]
    let y := ((shortL b (ds.drop (n + 1))).2 * B + x) / b
    have hylt : y < 4294967296 := by
      have := (shortL_spec hb hB (ds := ds.drop n) fun d hd => hs d (List.mem_of_mem_drop hd)).2.2.2 y (by rw [hdx]; simp [shortL, y])
      exact this
    obtain ⟨H1, st, hw1, hf1, hsz1, hro1⟩ := hw.store (i := n) (by simp; omega) (x := u32 y) rfl .i64
    have hset : (limbs (ds.take (n + 1) ++ (shortL b (ds.drop (n + 1))).1)).set n (u32 y) = limbs (ds.take n ++ (shortL b (ds.drop n)).1) := by
      rw [hdx, List.take_add_one, hx]
      have hl : (limbs (ds.take n)).length = n := by rw [limbs_len, List.length_take_of_le (by omega)]
      simp only [limbs, shortL, Option.toList_some, List.map_append, List.map_cons, List.map_nil, List.append_assoc]
      rw [List.set_append_right _ _ (by rw [show (List.map u32 (ds.take n)).length = n from hl]; omega), show (List.map u32 (ds.take n)).length = n from hl, Nat.sub_self]
      rfl
    rw [hset] at hw1
    obtain ⟨H2, h1, h2, h3, h4, h5⟩ := short_loop C K lo hb hB hs hlen n fuel H1 (by omega) (by omega) hw1
    refine ⟨H2, ?_, h2, hf1.trans h3, h4.trans hsz1, fun r' hr' => (h5 r' hr').trans (hro1 r' hr')⟩
    rw [z_loop4]
    simp only [f49_l1, z_geq, decide_eq_true h0, z_cond, cond_true]
    rw [e, show (SV.int .u64 32) = SV.int .u64 ((32 : Nat) : Int) from rfl]
    have hr2 : (shortL b (ds.drop (n + 1))).2 * 2 ^ 32 + x < 18446744073709551616 := by
      have : (shortL b (ds.drop (n + 1))).2 + 1 ≤ 4294967296 := by omega
      have := Nat.mul_le_mul_right 4294967296 this
      omega
    have hr3 : (shortL b (ds.drop (n + 1))).2 * B + x < 18446744073709551616 := hr2
    have hr1 : (shortL b (ds.drop (n + 1))).2 * 2 ^ 32 < 18446744073709551616 := Nat.lt_of_le_of_lt (Nat.le_add_right _ _) hr2
    rw [n_shl64 _ .u64 (shortL b (ds.drop (n + 1))).2 32 (by decide) hr1, hw.arr.load (limbs_get hcur), n_conv64 _ .u32 x (by omega), n_or64 _ hr1 (by omega)]
    have hor : (shortL b (ds.drop (n + 1))).2 * 2 ^ 32 ||| x = (shortL b (ds.drop (n + 1))).2 * B + x := or_add _ _ hxB
    rw [hor, n_conv64 _ .u32 b (by omega), n_quo64 _ _ (by omega) hr3, n_conv32, n_conv64 _ .u32 b (by omega), n_rem _ .u64 _ (by omega)]
    rw [show ((shortL b (ds.drop (n + 1))).2 * B + x) / b % 4294967296 = y from Nat.mod_eq_of_lt hylt, st, z_sub64 (by omega) (by omega)]
    have e3 : ((shortL b (ds.drop (n + 1))).2 * B + x) % b = (shortL b (ds.drop n)).2 := by rw [hdx]; rfl
    rw [e3]
    exact h1
/-- short: divides in place. -/
theorem short_ok (K : Nat) (d : Nat) (H : Heap) {lo : Nat} {v : SV} {r : Nat} {pre post : List SV} {b : Nat} (hb : 0 < b) (hB : b < B) {ds : List Nat} (hs : Small ds) (hK : ds.length < K) (hlen : ds.length < 1000000000) (hw : Wr lo H v r pre (limbs ds) post) :
    ∃ H', runQ wk tab slow K (d + 1) 49 [v, u32 b] H = some (u32 (val ds % b), H') ∧ Wr lo H' v r pre (limbs (shortL b ds).1) post ∧ Fr lo H H' ∧ H'.size = H.size ∧ ∀ r', r' ≠ r → H'.get r' = H.get r' := by
  show ∃ H', f49 slow K (runQ wk tab slow K d) v (u32 b) H = _ ∧ _
  simp only [f49, blen hw.arr]
  rw [z_sub64 (by omega) (by omega), ← (shortL_val hb hB hs).2]
  have := short_loop (runQ wk tab slow K d) K lo (v := v) (r := r) (pre := pre) (post := post) hb hB hs hlen ds.length K H (Nat.le_refl _) hK (by rw [List.take_length, List.drop_length]; simpa [shortL] using hw)
  rw [List.drop_length] at this
  exact this
end Go.Sh.Of
namespace Go.Sh.Of
open Go

/-- Decimal digits, the lowest first. -/
def decLE (n : Nat) : List Nat := if h : n = 0 then [] else n % 10 :: decLE (n / 10)
termination_by n
decreasing_by exact Nat.div_lt_self (Nat.pos_of_ne_zero h) (by decide)
theorem decLE_zero : decLE 0 = [] := by rw [decLE]; rfl
theorem decLE_pos {n : Nat} (h : n ≠ 0) : decLE n = n % 10 :: decLE (n / 10) := by rw [decLE, dif_neg h]
/-- A digit's byte. -/
def chr (d : Nat) : UInt8 := UInt8.ofNat (48 + d)
/-- Decimal digits, as a text. -/
def dec (n : Nat) : List UInt8 := if n = 0 then [48] else (decLE n).reverse.map chr
theorem decLE_lt {n : Nat} : ∀ d ∈ decLE n, d < 10 := by
  induction n using Nat.strongRecOn with
  | ind n ih =>
    by_cases h : n = 0
    · subst h; rw [decLE_zero]; intro d hd; cases hd
    · rw [decLE_pos h]
      intro d hd
      rcases List.mem_cons.1 hd with rfl | hd
      · exact Nat.mod_lt _ (by decide)
      · exact ih (n / 10) (Nat.div_lt_self (Nat.pos_of_ne_zero h) (by decide)) d hd
theorem decLE_len {n k : Nat} (h : n < 10 ^ k) : (decLE n).length ≤ k := by
  induction k generalizing n with
  | zero => have : n = 0 := by simpa using h
            subst this; rw [decLE_zero]; simp
  | succ k ih =>
    by_cases h0 : n = 0
    · subst h0; rw [decLE_zero]; simp
    · rw [decLE_pos h0, List.length_cons]
      have : n / 10 < 10 ^ k := by rw [Nat.div_lt_iff_lt_mul (by decide), ← Nat.pow_succ]; exact h
      exact Nat.succ_le_succ (ih this)
theorem decLE_lt_pow (n : Nat) : n < 10 ^ (decLE n).length := by
  induction n using Nat.strongRecOn with
  | ind n ih =>
    by_cases h : n = 0
    · subst h; rw [decLE_zero]; simp
    · rw [decLE_pos h, List.length_cons, Nat.pow_succ]
      have := ih (n / 10) (Nat.div_lt_self (Nat.pos_of_ne_zero h) (by decide))
      omega
theorem decLE_mono {a b : Nat} (h : a ≤ b) : (decLE a).length ≤ (decLE b).length := decLE_len (Nat.lt_of_le_of_lt h (decLE_lt_pow b))
theorem two_ten : ∀ k : Nat, 2 ^ k ≤ 10 ^ k
  | k => Nat.pow_le_pow_left (by decide) k
abbrev chrs (l : List Nat) : List SV := l.map fun d => u8 (48 + d)
theorem inRow_uniq {v : SV} {r r' : Nat} (h : inRow v r) (h' : inRow v r') : r = r' := by
  obtain ⟨s, o, rfl, e⟩ := h
  obtain ⟨s', o', e1, e2⟩ := h'
  cases e1
  rw [e] at e2
  cases e2
  rfl
theorem Own.of_rows {lo : Nat} {H H' : Heap} {v : SV} {cs : List SV} (h : Own lo H v cs) (hr : ∀ r, inRow v r → H'.get r = H.get r) : Own lo H' v cs := by
  obtain ⟨base, rfl, h⟩ := h
  refine ⟨base, rfl, ?_⟩
  rcases h with h | ⟨r, ver, rfl, h2, h3⟩
  · exact .inl h
  · exact .inr ⟨r, ver, rfl, h2, by rw [hr r ⟨_, 0, rfl, rfl⟩]; exact h3⟩
theorem not_inRow_nil (r : Nat) : ¬ inRow (.slice nilSl) r := fun ⟨s, o, e, h⟩ => by cases e; cases h
theorem Own.lt {lo : Nat} {H : Heap} {v : SV} {cs : List SV} (h : Own lo H v cs) {r : Nat} (hr : inRow v r) : r < H.size := by
  obtain ⟨base, rfl, h⟩ := h
  obtain ⟨s, o, e, h4⟩ := hr
  cases e
  rcases h with ⟨rfl, _⟩ | ⟨r', ver, rfl, h2, h3⟩
  · cases h4
  · cases h4; exact Heap.get_lt h3
/-- The inner loop: nine digits, or as many as there are. -/
theorem text_in (C : CallC) (K : Nat) (lo : Nat) {sl : SV} {r : Nat} {post : List SV} {m : Nat} (hroot : Root sl) (hfl : sl.flat = true) (k14 : SV → SV → Heap → Rs) (N : Nat) (hN : N < 1000000000) : ∀ (j i x : Nat) (fuel : Nat) (H : Heap) (out : SV) (pre : List Nat), i + j = 9 → j < fuel → x < 10 ^ j → lo ≤ H.size → Wr lo H sl r [] (limbs (digs m)) post → Own lo H out (chrs pre) → ¬ inRow out r → pre.length + (decLE (x + 10 ^ j * m)).length ≤ N →
    ∃ out' H' pre', slow.loop4 (f25_l4 slow K C k14) fuel sl out (u32 x) (i64 i) H = k14 sl out' H' ∧ Fr lo H H' ∧ Wr lo H' sl r [] (limbs (digs m)) post ∧ Own lo H' out' (chrs pre') ∧ ¬ inRow out' r ∧ pre' ++ decLE m = pre ++ decLE (x + 10 ^ j * m)
  | 0, i, x, fuel, H, out, pre, hij, hf, hx, hlo, hw, ho, hnr, hlen => by
    obtain ⟨fuel, rfl⟩ : ∃ m, fuel = m + 1 := ⟨fuel - 1, by omega⟩
    have hx0 : x = 0 := by simpa using hx
    subst hx0
    have h9 : ¬ (i : Int) < 9 := by omega
    refine ⟨out, H, pre, ?_, Fr.refl _ _, hw, ho, hnr, by simp⟩
    rw [z_loop4]
    simp only [f25_l4, z_lss, decide_eq_false h9, z_guard, cond_false, f25_j5, z_cond]
  | j + 1, i, x, fuel, H, out, pre, hij, hf, hx, hlo, hw, ho, hnr, hlen => by
    obtain ⟨fuel, rfl⟩ : ∃ m, fuel = m + 1 := ⟨fuel - 1, by omega⟩
    have h9 : (i : Int) < 9 := by omega
    have hlt : x < 4294967296 := by
      have : 10 ^ (j + 1) ≤ 10 ^ 9 := Nat.pow_le_pow_right (by decide) (by omega)
      omega
    by_cases h0 : m = 0 ∧ x = 0
    · obtain ⟨rfl, rfl⟩ := h0
      refine ⟨out, H, pre, ?_, Fr.refl _ _, hw, ho, hnr, by simp⟩
      rw [z_loop4]
      have hl0 : Arr H sl (limbs (digs 0)) := hw.arr
      rw [digs_zero] at hl0
      have e1 : ¬ (((([] : List Nat).length : Nat) : Int) > 0) := by simp
      have e2 : ¬ (((0 : Nat) : Int) > 0) := by omega
      simp only [f25_l4, z_lss, decide_eq_true h9, z_guard, cond_true, blen hl0, z_gtr, decide_eq_false e1, decide_eq_false e2, cond_false, f25_j5, z_cond]
    · have hne : x + 10 ^ (j + 1) * m ≠ 0 := by
        intro e
        apply h0
        have h1 : x = 0 := by omega
        have h2 : 10 ^ (j + 1) * m = 0 := by omega
        exact ⟨(Nat.mul_eq_zero.1 h2).resolve_left (by have := Nat.pow_pos (n := j + 1) (show 0 < 10 by decide); omega), h1⟩
      have e10 : 10 ^ (j + 1) * m = 10 * (10 ^ j * m) := by rw [Nat.pow_succ, Nat.mul_comm (10 ^ j) 10, Nat.mul_assoc]
      have em : (x + 10 ^ (j + 1) * m) % 10 = x % 10 := by rw [e10]; omega
      have ed : (x + 10 ^ (j + 1) * m) / 10 = x / 10 + 10 ^ j * m := by rw [e10]; omega
      have edec : decLE (x + 10 ^ (j + 1) * m) = x % 10 :: decLE (x / 10 + 10 ^ j * m) := by rw [decLE_pos hne, em, ed]
      have h10 : (48 + x % 10) % 4294967296 % 256 = 48 + x % 10 := by omega
      obtain ⟨u, H1, hu, hou, hfu, hru, hsz⟩ := z_lay1 (H := H) (lo := H.size) (Nat.le_refl _) (.int .u8 0) (x := u8 (48 + x % 10)) rfl
      rw [edec, List.length_cons] at hlen
      obtain ⟨o', H2, ha, ho2, hf2, hrow, hin, _⟩ := (ho.fr hfu).append (Nat.le_trans hlo hfu.size) hou.arr (by_ := 1) (roomy_small (by simp; omega))
      have hrlt := hw.lt
      have hnr' : ¬ inRow o' r := fun hi => by
        have := inRow_uniq (hin (by simp)) hi
        have := hfu.size
        omega
      have hw2 : Wr lo H2 sl r [] (limbs (digs m)) post := by
        have hw1 := hw.fr hfu
        exact hw1.row (hrow r hnr (hw1.lt))
      have e3 : chrs pre ++ [u8 (48 + x % 10)] = chrs (pre ++ [x % 10]) := by simp
      rw [e3] at ho2
      obtain ⟨out', H', pre', h1, h2, h3, h4, h5, h6⟩ := text_in C K lo hroot hfl k14 N hN j (i + 1) (x / 10) fuel H2 o' (pre ++ [x % 10]) (by omega) (by omega) (by rw [Nat.pow_succ] at hx; omega) (Nat.le_trans hlo (Nat.le_trans hfu.size hf2.size)) hw2 ho2 hnr' (by simp; omega)
      refine ⟨out', H', pre', ?_, ((hfu.mono hlo).trans hf2).trans h2, h3, h4, h5, by rw [h6, edec]; simp⟩
      rw [z_loop4]
      have step : f25_j5 slow K C k14 (slow.loop4 (f25_l4 slow K C k14) fuel) sl out (u32 x) (i64 i) (.bool true) H = k14 sl out' H' := by
        simp only [f25_j5, z_cond, cond_true]
        rw [show (SV.int .u32 10) = u32 10 from rfl, n_rem _ .u32 x (by decide), show (SV.int .u32 48) = u32 48 from rfl, n_add32, n_conv8, h10, hu, ha, n_quo32 _ _ (by decide) hlt]
        rw [show (SV.int .i64 1) = i64 1 from rfl, n_addi _ (by omega)]
        exact h1
      simp only [f25_l4, z_lss, decide_eq_true h9, z_guard, cond_true, blen hw.arr, z_gtr]
      by_cases hl : ((digs m).length : Int) > 0
      · simp only [decide_eq_true hl, cond_true]; exact step
      · have hm0 : m = 0 := digs_nil.1 (List.eq_nil_of_length_eq_zero (by omega))
        have hx0 : ((x : Nat) : Int) > 0 := by
          have : x ≠ 0 := fun e => h0 ⟨hm0, e⟩
          omega
        simp only [decide_eq_false hl, cond_false, decide_eq_true hx0]; exact step
/-- The last loop: a list turned round, in place. -/
theorem swap_turn {α : Type} {l : List α} {i : Nat} (h : 2 * i + 1 < l.length) {x y : α} (hx : l[i]? = some x) (hy : l[l.length - 1 - i]? = some y) : (l.set i y).set (l.length - 1 - i) x = (l.set (l.length - 1 - i) x).set i y := by
  rw [List.set_comm]
  omega
/-- The first i and the last i have changed places. -/
def half (l : List Nat) (i : Nat) : List Nat := (l.reverse.take i) ++ ((l.drop i).take (l.length - 2 * i)) ++ (l.reverse.drop (l.length - i))
theorem half_get {l : List Nat} {i j : Nat} (hi : 2 * i ≤ l.length) (hj : j < l.length) : (half l i)[j]? = if j < i ∨ l.length - i ≤ j then l.reverse[j]? else l[j]? := by
  unfold half
  rw [List.append_assoc, List.getElem?_append]
  have hl1 : (l.reverse.take i).length = i := by simp; omega
  rw [hl1]
  by_cases h1 : j < i
  · rw [if_pos h1, if_pos (.inl h1), List.getElem?_take_of_lt h1]
  · rw [if_neg h1, List.getElem?_append]
    have hl2 : ((l.drop i).take (l.length - 2 * i)).length = l.length - 2 * i := by simp; omega
    rw [hl2]
    by_cases h2 : j - i < l.length - 2 * i
    · rw [if_pos h2, if_neg (by omega), List.getElem?_take_of_lt h2, List.getElem?_drop, show i + (j - i) = j by omega]
    · rw [if_neg h2, if_pos (.inr (by omega)), List.getElem?_drop]
      congr 1; omega
theorem half_len {l : List Nat} {i : Nat} (hi : 2 * i ≤ l.length) : (half l i).length = l.length := by
  unfold half; simp; omega
theorem half_zero (l : List Nat) : half l 0 = l := by simp [half]
theorem half_end {l : List Nat} {i : Nat} (hi : 2 * i ≤ l.length) (h : l.length ≤ 2 * i + 1) : half l i = l.reverse := by
  apply List.ext_getElem?
  intro j
  by_cases hj : j < l.length
  · rw [half_get hi hj]
    split
    · rfl
    · rw [List.getElem?_reverse hj]
      congr 1; omega
  · rw [List.getElem?_eq_none (by rw [half_len hi]; omega), List.getElem?_eq_none (by simp; omega)]
theorem half_step {l : List Nat} {i : Nat} (h : 2 * i + 1 < l.length) {x y : Nat} (hx : l[i]? = some x) (hy : l[l.length - 1 - i]? = some y) : ((half l i).set i y).set (l.length - 1 - i) x = half l (i + 1) := by
  apply List.ext_getElem?
  intro j
  by_cases hj : j < l.length
  · rw [half_get (by omega) hj, List.getElem?_set, List.getElem?_set]
    simp only [List.length_set, half_len (show 2 * i ≤ l.length by omega)]
    by_cases h1 : l.length - 1 - i = j
    · rw [if_pos h1, if_pos (show l.length - 1 - i < l.length by omega), if_pos (.inr (by omega)), List.getElem?_reverse hj, ← hx]
      congr 1; omega
    · rw [if_neg h1]
      by_cases h2 : i = j
      · rw [if_pos h2, if_pos (by omega), if_pos (.inl (by omega)), List.getElem?_reverse hj, ← hy]
        congr 1; omega
      · rw [if_neg h2, half_get (by omega) hj]
        by_cases h3 : j < i ∨ l.length - i ≤ j
        · rw [if_pos h3, if_pos (by omega)]
        · rw [if_neg h3, if_neg (by omega)]
  · rw [List.getElem?_eq_none (by simp [half_len (show 2 * i ≤ l.length by omega)]; omega), List.getElem?_eq_none (by rw [half_len (by omega)]; omega)]
theorem chrs_get {l : List Nat} {i d : Nat} (h : l[i]? = some d) : (chrs l)[i]? = some (u8 (48 + d)) := by simp [h]
theorem bytes_chrs : ∀ (l : List Nat), (∀ d ∈ l, d < 10) → bytesOf (chrs l) = some (l.map chr)
  | [], _ => rfl
  | d :: l, h => by
    have ih := bytes_chrs l fun x hx => h x (by simp [hx])
    simp only [chrs, List.map_cons, bytesOf, Int.toNat_natCast]
    rw [show bytesOf (List.map (fun d => u8 (48 + d)) l) = some (l.map chr) from ih]
    rfl
theorem text_rev (C : CallC) (K : Nat) (lo : Nat) {v : SV} {l : List Nat} (h10 : ∀ d ∈ l, d < 10) (hlen : l.length < 1000000000) : ∀ (n i fuel : Nat) (H : Heap), n + 2 * i + 1 = l.length ∨ (n = 0 ∧ l.length = 2 * i) → n < fuel → Own lo H v (chrs (half l i)) →
    ∃ H', slow.loop3 (f25_l11 slow K C) fuel v (i64 i) (.int .i64 ((l.length : Int) - 1 - i)) H = some (.str (l.reverse.map chr), H') ∧ Fr lo H H' := by
  intro n
  induction n using Nat.strongRecOn with
  | ind n ih =>
    intro i fuel H hn hf ho
    obtain ⟨fuel, rfl⟩ : ∃ m, fuel = m + 1 := ⟨fuel - 1, by omega⟩
    by_cases hlt : 2 * i + 1 < l.length
    · have hn' : n + 2 * i + 1 = l.length := by omega
      have hc : ((i : Nat) : Int) < (l.length : Int) - 1 - (i : Int) := by omega
      have ej : ((l.length : Int) - 1 - (i : Int)) = ((l.length - 1 - i : Nat) : Int) := by omega
      obtain ⟨x, hx⟩ : ∃ x, l[i]? = some x := ⟨_, List.getElem?_eq_getElem (by omega)⟩
      obtain ⟨y, hy⟩ : ∃ y, l[l.length - 1 - i]? = some y := ⟨_, List.getElem?_eq_getElem (by omega)⟩
      have hgi : (half l i)[i]? = some x := by rw [half_get (by omega) (by omega), if_neg (by omega), hx]
      have hgj : (half l i)[l.length - 1 - i]? = some y := by rw [half_get (by omega) (by omega), if_neg (by omega), hy]
      have hhl := half_len (show 2 * i ≤ l.length by omega)
      obtain ⟨H1, s1, o1, f1, _, _⟩ := ho.store (i := i) (by simp [hhl]; omega) (x := u8 (48 + y)) rfl .i64
      obtain ⟨H2, s2, o2, f2, _, _⟩ := o1.store (i := l.length - 1 - i) (by simp [hhl]; omega) (x := u8 (48 + x)) rfl .i64
      have hset : ((chrs (half l i)).set i (u8 (48 + y))).set (l.length - 1 - i) (u8 (48 + x)) = chrs (half l (i + 1)) := by
        rw [← half_step hlt hx hy]; simp [chrs, List.map_set]
      rw [hset] at o2
      obtain ⟨H3, h3, f3⟩ := ih (n - 2) (by omega) (i + 1) fuel H2 (by omega) (by omega) o2
      refine ⟨H3, ?_, (f1.trans f2).trans f3⟩
      rw [z_loop3]
      simp only [f25_l11, z_lss, decide_eq_true hc, z_cond, cond_true]
      rw [ej, ho.arr.load (chrs_get hgj), ho.arr.load (chrs_get hgi), s1, s2, z_add64 (by omega) (by omega), z_sub64 (by omega) (by omega)]
      have e1 : ((i : Int) + 1) = ((i + 1 : Nat) : Int) := by omega
      have e2 : (((l.length - 1 - i : Nat) : Int) - 1) = ((l.length : Int) - 1 - ((i + 1 : Nat) : Int)) := by omega
      rw [e1, e2]
      exact h3
    · have hc : ¬ ((i : Nat) : Int) < (l.length : Int) - 1 - (i : Int) := by omega
      rw [half_end (by omega) (by omega)] at ho
      obtain ⟨s, rfl, e1, e2⟩ := ho.arr.elems
      refine ⟨H, ?_, Fr.refl _ _⟩
      rw [z_loop3]
      simp only [f25_l11, z_lss, decide_eq_false hc, z_cond, cond_false]
      show ((opR .str [.slice s] H).bind _) = _
      simp only [opR, e2, Option.bind_some, bytes_chrs l.reverse (fun d hd => h10 d (List.mem_reverse.1 hd)), Option.map_some]
      rfl
/-- The outer loop. -/
theorem text_out (K : Nat) (d : Nat) (lo : Nat) (N : Nat) (hN : N < 1000000000) (hK : N < K) (hK9 : 9 < K) {n : Nat} (hdec : (decLE n).length ≤ N) : ∀ (m : Nat) (fuel : Nat) (H : Heap) (sl out : SV) (r : Nat) (post : List SV) (pre : List Nat), (decLE m).length < fuel → (digs m).length ≤ N → lo ≤ H.size → Wr lo H sl r [] (limbs (digs m)) post → Root sl → sl.flat = true → Own lo H out (chrs pre) → ¬ inRow out r → pre ++ decLE m = decLE n →
    ∃ H', slow.loop2 (f25_l2 slow K (runQ wk tab slow K (d + 1))) fuel sl out H = some (.str ((decLE n).reverse.map chr), H') ∧ Fr lo H H' := by
  intro m
  induction m using Nat.strongRecOn with
  | ind m ih =>
    intro fuel H sl out r post pre hf hmN hlo hw hroot hfl ho hnr hpre
    obtain ⟨fuel, rfl⟩ : ∃ m, fuel = m + 1 := ⟨fuel - 1, by omega⟩
    rw [z_loop2]
    by_cases h0 : m = 0
    · subst h0
      rw [decLE_zero, List.append_nil] at hpre
      subst hpre
      have hl0 : Arr H sl (limbs (digs 0)) := hw.arr
      rw [digs_zero] at hl0
      have e1 : ¬ (((([] : List Nat).length : Nat) : Int) > 0) := by simp
      simp only [f25_l2, blen hl0, z_gtr, decide_eq_false e1, z_cond, cond_false]
      have hol : ∀ k, slow.len out k = k (i64 (decLE n).length) := fun k => by rw [ho.arr.len]; simp
      rw [hol, show (SV.int .i64 1) = i64 1 from rfl, z_sub64 (by omega) (by omega)]
      have hr := text_rev (runQ wk tab slow K (d + 1)) K lo (v := out) (l := decLE n) decLE_lt (by omega) ((decLE n).length - 1) 0 K H (by omega) (by omega) (by rw [half_zero]; exact ho)
      have e : ((decLE n).length : Int) - 1 - ((0 : Nat) : Int) = ((decLE n).length : Int) - 1 := by omega
      rw [e] at hr
      exact hr
    · have hpos : ((digs m).length : Int) > 0 := by
        have : digs m ≠ [] := fun e => h0 (digs_nil.1 e)
        have := List.length_pos_iff.2 this
        omega
      have hs := digs_small m
      have hb : (1000000000 : Nat) < B := by decide
      obtain ⟨H1, h1, hw1, f1, sz1, hr1⟩ := short_ok K d H (b := 1000000000) (by decide) hb hs (by omega) (by omega) hw
      obtain ⟨s1, s2, s3, s4⟩ := shortL_spec (b := 1000000000) (by decide) hb hs
      obtain ⟨sl', h2, hcut⟩ := cut_ok K d H1 (ds := (shortL 1000000000 (digs m)).1) hw1.arr s4 hroot (by omega) (by omega)
      have hv := (shortL_val (b := 1000000000) (by decide) hb hs).1
      rw [val_digs] at hv
      obtain ⟨c1, c2, c3, c4⟩ := hcut
      obtain ⟨post', hw2⟩ := c4 lo r [] post hw1
      rw [hv] at c1 hw2
      have ho1 : Own lo H1 out (chrs pre) := Own.of_rows ho fun r' hi => hr1 r' fun e => hnr (e ▸ hi)
      have hlt : val (digs m) % 1000000000 < 10 ^ 9 := by rw [val_digs]; exact Nat.mod_lt _ (by decide)
      have e10 : m % 1000000000 + 10 ^ 9 * (m / 1000000000) = m := Nat.mod_add_div m 1000000000
      obtain ⟨out', H2, pre', h3, f2, hw3, ho3, hnr3, hp3⟩ := text_in (runQ wk tab slow K (d + 1)) K lo c3 c2 (slow.loop2 (f25_l2 slow K (runQ wk tab slow K (d + 1))) fuel) N hN 9 0 (val (digs m) % 1000000000) K H1 out pre rfl hK9 hlt (by omega) hw2 ho1 hnr (by
        rw [val_digs, e10, ← List.length_append, hpre]; exact hdec)
      rw [val_digs, e10] at hp3
      have hmlt : m / 1000000000 < m := Nat.div_lt_self (Nat.pos_of_ne_zero h0) (by decide)
      have hdl : (digs (m / 1000000000)).length ≤ (digs m).length := by
        have := digs_len_le (n := m / 1000000000) (k := (digs m).length) (Nat.lt_of_le_of_lt (Nat.div_le_self _ _) (by have := val_lt hs; rwa [val_digs] at this))
        exact this
      have hq : (decLE (m / 1000000000)).length < fuel := by
        have h1 := decLE_mono (show m / 1000000000 ≤ m / 10 by omega)
        rw [decLE_pos h0, List.length_cons] at hf
        omega
      obtain ⟨H3, h4, f3⟩ := ih (m / 1000000000) hmlt fuel H2 sl' out' r post' pre' hq (by omega) (Nat.le_trans hlo (Nat.le_trans f1.size f2.size)) hw3 c3 c2 ho3 hnr3 (by rw [hp3, hpre])
      refine ⟨H3, ?_, (f1.trans f2).trans f3⟩
      simp only [f25_l2, blen hw.arr, z_gtr, decide_eq_true hpos, z_cond, cond_true]
      rw [show (SV.int .u32 1000000000) = u32 1000000000 from rfl, h1, z_call, h2, z_call, z_field0, show (SV.int .i64 0) = i64 0 from rfl, h3]
      exact h4
/-- Text: decimal digits. -/
theorem text_ok (K : Nat) (d : Nat) (H : Heap) {v : SV} {n : Nat} (hv : IsNat H v n) (hK : 9 < K) (hdK : (decLE n).length < K) (hgK : (digs n).length < K) (hd : (decLE n).length < 1000000000) (hg : (digs n).length < 1000000000) :
    ∃ H', runQ wk tab slow K (d + 2) 25 [v] H = some (.str (dec n), H') ∧ Frame H H' := by
  obtain ⟨sl, rfl, ha, _⟩ := hv
  show ∃ H', f25 slow K (runQ wk tab slow K (d + 1)) (.agg [sl]) H = _ ∧ _
  by_cases h0 : n = 0
  · subst h0
    rw [digs_zero] at ha
    refine ⟨H, ?_, Fr.refl _ _⟩
    simp only [f25, z_bbox, z_lfld, z_lld0, blen ha, z_eql, z_cond]
    rfl
  · have hne : digs n ≠ [] := fun e => h0 (digs_nil.1 e)
    have hpos : (((digs n).length : Int) == 0) = false := beq_eq_false_iff_ne.2 (by have := List.length_pos_iff.2 hne; omega)
    obtain ⟨v', H1, h1, ho, hf, _, hin, _⟩ := (Own.nil H.size H).append (Nat.le_refl _) ha (by_ := 4) (roomy_small (by simp; omega))
    rw [List.nil_append] at ho
    obtain ⟨r, hw⟩ := ho.wr (by simpa using hne)
    let N := max (decLE n).length (digs n).length
    obtain ⟨H2, h2, f2⟩ := text_out K d H.size N (by omega) (by omega) hK (n := n) (by omega) n K H1 v' (.slice nilSl) r [] [] hdK (by omega) hf.size hw ho.root ho.arr.flat (Own.nil _ _) (not_inRow_nil r) (by simp)
    refine ⟨H2, ?_, hf.trans f2⟩
    simp only [f25, z_bbox, z_lfld, z_lld0, blen ha, z_eql, hpos, z_cond, cond_false, h1]
    rw [h2]
    simp [dec, h0]
end Go.Sh.Of
namespace Go.Sh.Of
open Go

section
variable (k : K1)
theorem n_xor32 {a b : Nat} (ha : a < 4294967296) (hb : b < 4294967296) : slow.xor (u32 a) (u32 b) k = k (u32 (a ^^^ b)) := by
  rw [← qXor_eq]
  show nK .u32 (.ofNat (Nat.xor (Nat.mod a (Nat.pow 2 32)) (Nat.mod b (Nat.pow 2 32)))) k = _
  have e : Nat.xor (Nat.mod a (Nat.pow 2 32)) (Nat.mod b (Nat.pow 2 32)) = a ^^^ b := by
    show (a % 2 ^ 32) ^^^ (b % 2 ^ 32) = a ^^^ b
    rw [Nat.mod_eq_of_lt ha, Nat.mod_eq_of_lt hb]
  have hlt : (a ^^^ b) < 4294967296 := Nat.xor_lt_two_pow (n := 32) ha hb
  rw [nK_eq, e, wrapB, Int.ofNat_eq_natCast, wrap_u32, Nat.mod_eq_of_lt hlt]
theorem n_and32 {a b : Nat} (ha : a < 4294967296) (hb : b < 4294967296) : slow.and (u32 a) (u32 b) k = k (u32 (a &&& b)) := by
  rw [← qAnd_eq]
  show nK .u32 (.ofNat (Nat.land (Nat.mod a (Nat.pow 2 32)) (Nat.mod b (Nat.pow 2 32)))) k = _
  have e : Nat.land (Nat.mod a (Nat.pow 2 32)) (Nat.mod b (Nat.pow 2 32)) = a &&& b := by
    show (a % 2 ^ 32) &&& (b % 2 ^ 32) = a &&& b
    rw [Nat.mod_eq_of_lt ha, Nat.mod_eq_of_lt hb]
  have hlt : (a &&& b) < 4294967296 := Nat.lt_of_le_of_lt Nat.and_le_left ha
  rw [nK_eq, e, wrapB, Int.ofNat_eq_natCast, wrap_u32, Nat.mod_eq_of_lt hlt]
theorem n_or32 {a b : Nat} (ha : a < 4294967296) (hb : b < 4294967296) : slow.or (u32 a) (u32 b) k = k (u32 (a ||| b)) := by
  rw [← qOr_eq]
  show nK .u32 (.ofNat (Nat.lor (Nat.mod a (Nat.pow 2 32)) (Nat.mod b (Nat.pow 2 32)))) k = _
  have e : Nat.lor (Nat.mod a (Nat.pow 2 32)) (Nat.mod b (Nat.pow 2 32)) = a ||| b := by
    show (a % 2 ^ 32) ||| (b % 2 ^ 32) = a ||| b
    rw [Nat.mod_eq_of_lt ha, Nat.mod_eq_of_lt hb]
  have hlt : (a ||| b) < 4294967296 := Nat.or_lt_two_pow (n := 32) ha hb
  rw [nK_eq, e, wrapB, Int.ofNat_eq_natCast, wrap_u32, Nat.mod_eq_of_lt hlt]
theorem n_not32 {a : Nat} (ha : a < 4294967296) : slow.u_xor (u32 a) k = k (u32 (4294967295 ^^^ a)) := by
  rw [← n_xor32 k (by decide) ha]
  rfl
end
theorem top_bit {n : Nat} (h : n < 4294967296) : n / 2 ^ 31 = (n.testBit 31).toNat := by
  rw [Nat.testBit_eq_decide_div_mod_eq]
  have : n / 2 ^ 31 < 2 := by omega
  by_cases h1 : n / 2 ^ 31 % 2 = 1
  · rw [decide_eq_true h1]; show _ = 1; omega
  · rw [decide_eq_false h1]; show _ = 0; omega
theorem bit31 {n : Nat} (h : n < 4294967296) : n.testBit 31 = decide (2147483648 ≤ n) := by
  rw [Nat.testBit_eq_decide_div_mod_eq]
  exact decide_eq_decide.2 (by omega)
/-- Sub32: the difference, and what is borrowed. -/
theorem sub32_ok (K : Nat) (d : Nat) (H : Heap) {x y c : Nat} (hx : x < 4294967296) (hy : y < 4294967296) (hc : c ≤ 1) :
    runQ wk tab slow K (d + 1) 69 [u32 x, u32 y, u32 c] H = some (.tuple [u32 ((x + 2 * 4294967296 - y - c) % 4294967296), u32 (if x < y + c then 1 else 0)], H) := by
  show f69 slow K (runQ wk tab slow K d) (u32 x) (u32 y) (u32 c) H = _
  unfold f69
  have e1 : ((x + 4294967296 - y) % 4294967296 + 4294967296 - c) % 4294967296 = (x + 2 * 4294967296 - y - c) % 4294967296 := by omega
  rw [n_sub32 _ hx hy, n_sub32 _ (Nat.mod_lt _ (by decide)) (by omega), e1]
  generalize hz : (x + 2 * 4294967296 - y - c) % 4294967296 = z
  have hzlt : z < 4294967296 := by rw [← hz]; exact Nat.mod_lt _ (by decide)
  have hn : (4294967295 ^^^ x) < 4294967296 := Nat.xor_lt_two_pow (n := 32) (by decide) hx
  have hxy : (x ^^^ y) < 4294967296 := Nat.xor_lt_two_pow (n := 32) hx hy
  have hnxy : (4294967295 ^^^ (x ^^^ y)) < 4294967296 := Nat.xor_lt_two_pow (n := 32) (by decide) hxy
  have ha1 : (4294967295 ^^^ x) &&& y < 4294967296 := Nat.lt_of_le_of_lt Nat.and_le_left hn
  have ha2 : (4294967295 ^^^ (x ^^^ y)) &&& z < 4294967296 := Nat.lt_of_le_of_lt Nat.and_le_left hnxy
  have hor : ((4294967295 ^^^ x) &&& y ||| (4294967295 ^^^ (x ^^^ y)) &&& z) < 4294967296 := Nat.or_lt_two_pow (n := 32) ha1 ha2
  rw [n_not32 _ hx, n_and32 _ hn hy, n_xor32 _ hx hy, n_not32 _ hxy, n_and32 _ hnxy hzlt, n_or32 _ ha1 ha2]
  rw [show (SV.int .u64 31) = SV.int .u64 ((31 : Nat) : Int) from rfl, n_shr _ .u32 .u64 _ 31 (by decide)]
  simp only [z_rest_int]
  congr 4
  rw [top_bit hor, Nat.testBit_or, Nat.testBit_and, Nat.testBit_and, Nat.testBit_xor, Nat.testBit_xor, Nat.testBit_xor, bit31 hx, bit31 hy, bit31 hzlt, show Nat.testBit 4294967295 31 = true by decide]
  congr 1
  by_cases h1 : 2147483648 ≤ x <;> by_cases h2 : 2147483648 ≤ y <;> by_cases h3 : 2147483648 ≤ z <;> by_cases h4 : x < y + c <;> simp [h1, h2, h3, h4] <;> omega
theorem val_set : ∀ {o : List Nat} {i d z : Nat}, o[i]? = some d → val (o.set i z) + d * B ^ i = val o + z * B ^ i
  | [], i, d, z, h => by simp at h
  | x :: o, 0, d, z, h => by simp at h; subst h; simp [val]; omega
  | x :: o, i + 1, d, z, h => by
    simp only [List.getElem?_cons_succ] at h
    have ih := val_set (z := z) h
    simp only [List.set_cons_succ, val, Nat.pow_succ]
    have e1 : d * (B ^ i * B) = B * (d * B ^ i) := by rw [← Nat.mul_assoc, Nat.mul_comm]
    have e2 : z * (B ^ i * B) = B * (z * B ^ i) := by rw [← Nat.mul_assoc, Nat.mul_comm]
    rw [e1, e2, Nat.add_assoc, Nat.add_assoc, ← Nat.mul_add, ← Nat.mul_add, ih]
theorem small_set {o : List Nat} (h : Small o) {i z : Nat} (hz : z < B) : Small (o.set i z) := fun d hd => by
  rcases List.mem_or_eq_of_mem_set hd with hd | rfl
  · exact h d hd
  · exact hz
theorem small_zeros (n : Nat) : Small (List.replicate n 0) := fun d hd => by rw [List.eq_of_mem_replicate hd]; decide
/-- A slice is made: ready to be written. -/
theorem z_makeW {H : Heap} {lo : Nat} (hl : lo ≤ H.size) (by_ : Nat) (z : SV) (n : Nat) (hn : n ≤ 1099511627776) (hr : roomy n by_ = true) (kl kc : IntKind) :
    ∃ v H', (∀ k, slow.make 1 by_ [z] (.int kl n) (.int kc n) H k = k v H') ∧ Wr lo H' v H.size [] (List.replicate n z) [] ∧ Frame H H' ∧ Root v ∧ v.flat = true ∧ H'.size = H.size + 1 := by
  refine ⟨.slice ⟨some (H.size, 0), n, none, 0⟩, H.push (newRow 1 (List.replicate n z)), fun k => ?_, ⟨none, 0, 0, by simp, hl, by rw [List.nil_append, List.append_nil]; exact Heap.get_push_self _ _⟩, Fr.push (Nat.le_refl _) _, ⟨_, rfl, .inl rfl⟩, rfl, rfl⟩
  show (opE (.make 1 by_ [z]) [.int kl n, .int kc n] H).bind _ = _
  have hc : 0 ≤ (n : Int) ∧ (n : Int) ≤ n ∧ (n : Int) ≤ 1099511627776 ∧ roomy n by_ = true ∧ 0 < 1 := ⟨by omega, by omega, by omega, hr, by omega⟩
  simp only [opE, Int.toNat_natCast, if_pos hc, Option.bind_some, rep_one]
theorem splice_at (pre cs post ys : List SV) (h : ys.length ≤ cs.length) : splice (pre ++ (cs ++ post)) pre.length ys = some (pre ++ ((ys ++ cs.drop ys.length) ++ post)) := by
  have hle : Nat.ble (pre.length + ys.length) (pre ++ (cs ++ post)).length = true := Nat.ble_eq_true_of_le (by simp; omega)
  simp only [splice, hle, cond_true]
  congr 1
  rw [List.take_left', List.append_assoc]
  · congr 2
    rw [List.drop_append, List.drop_of_length_le (by omega), Nat.add_sub_cancel_left, List.nil_append, List.drop_append_of_le_length h]
  · rfl
/-- copy. -/
theorem wr_copy {lo : Nat} {H : Heap} {v w : SV} {r : Nat} {pre cs post ys : List SV} (h : Wr lo H v r pre cs post) (hw : Arr H w ys) (hl : ys.length ≤ cs.length) :
    ∃ H', (∀ k, slow.copy 1 v w H k = k (i64 ys.length) H') ∧ Wr lo H' v r pre (ys ++ cs.drop ys.length) post ∧ Fr lo H H' ∧ H'.size = H.size ∧ ∀ r', r' ≠ r → H'.get r' = H.get r' := by
  obtain ⟨s, rfl, h2, h3⟩ := hw.elems
  obtain ⟨cap, alt, ver, rfl, h4, h5⟩ := h
  refine ⟨H.set r ⟨2, 1, ver + 1, pre ++ ((ys ++ cs.drop ys.length) ++ post)⟩, fun k => ?_, ⟨cap, alt, ver + 1, by simp [Nat.add_sub_cancel' hl], h4, Heap.get_set_self h5 _⟩, Fr.set h4 _, rfl, fun r' hr' => Heap.get_set_ne _ (Ne.symm hr') _⟩
  show (opE (.copy 1) [.slice ⟨some (r, pre.length), cs.length, cap, alt⟩, .slice s] H).bind _ = _
  have hmin : min s.len cs.length = ys.length := by rw [h2]; exact Nat.min_eq_left hl
  have hs : ({ s with len := ys.length } : Sl) = s := by cases s; simp_all
  have hb2 : Nat.beq 2 2 = true := rfl
  simp only [opE, hmin, hs, h3, Option.bind_some, Heap.write, h5, hb2, cond_true, splice_at pre cs post ys hl, Option.map_some]
theorem limbs_zeros (n : Nat) : List.replicate n (SV.int .u32 0) = limbs (List.replicate n 0) := by simp [limbs]
theorem limbs_set (o : List Nat) (i z : Nat) : (limbs o).set i (u32 z) = limbs (o.set i z) := by simp [limbs, List.map_set]

/-! ### Add -/
theorem get_app_mid {α : Type} (xs : List α) (x : α) (ys : List α) {i : Nat} (h : xs.length = i) : (xs ++ x :: ys)[i]? = some x := by subst h; simp
theorem set_app_mid {α : Type} (xs : List α) (x z : α) (ys : List α) {i : Nat} (h : xs.length = i) : (xs ++ x :: ys).set i z = (xs ++ [z]) ++ ys := by subst h; simp
theorem add_loop (K : Nat) (d : Nat) (lo : Nat) {H0 : Heap} {v w : SV} {bs : List Nat} (hw : Arr H0 w (limbs bs)) (hlo : lo = H0.size) (hbs : Small bs) {n : Nat} (hn : n < 100000) (hbn : bs.length ≤ n) (hK : n < K) (hroot : Root v) {r : Nat} {S : Nat} (hS : S < B ^ n) : ∀ (j i fuel : Nat) (c : Nat) (H : Heap) (res rest : List Nat), i + j = n → j < fuel → c ≤ 1 → rest.length = j → Small rest → Small res → res.length = i → Frame H0 H → Wr lo H v r [] (limbs (res ++ rest)) [] → val res + B ^ i * (c + val rest + val (bs.drop i)) = S →
    ∃ rr H', slow.loop6 (f61_l2 slow K (runQ wk tab slow K (d + 3))) fuel (.box [w]) (.box [.slice nilSl]) v (u64 c) (i64 n) (i64 i) H = some (.tuple [rr, .int .i64 (if S < 2 ^ 4096 then 0 else 3)], H') ∧ Frame H0 H' ∧ IsNat H' rr (if S < 2 ^ 4096 then S else 0)
  | 0, i, fuel, c, H, res, rest, hij, hf, hc, hrl, hrs, hres, hri, hfr, hwr, hv => by
    obtain ⟨fuel, rfl⟩ : ∃ m, fuel = m + 1 := ⟨fuel - 1, by omega⟩
    have hin : i = n := by omega
    subst hin
    have hrest : rest = [] := List.eq_nil_of_length_eq_zero hrl
    subst hrest
    have hdrop : bs.drop i = [] := List.drop_eq_nil_iff.2 hbn
    rw [hdrop] at hv
    rw [List.append_nil] at hwr
    simp only [val, Nat.add_zero] at hv
    have hc0 : c = 0 := by
      cases c with
      | zero => rfl
      | succ c =>
        have : B ^ i * (c + 1) ≥ B ^ i := Nat.le_mul_of_pos_right _ (by omega)
        omega
    subst hc0
    have hvr : val res = S := by omega
    obtain ⟨sl, h2, h3⟩ := cut_ok K (d + 2) H (ds := res) hwr.arr hres hroot (by omega) (by omega)
    have hnat : IsNat H (.agg [sl]) S := by have := h3.isNat; rwa [hvr] at this
    obtain ⟨rr, h4, h5⟩ := fits_ok K d H hnat (by have := digs_len_le hS; omega)
    rw [z_loop6]
    have hlt : ¬ (i < i) := Nat.lt_irrefl i
    obtain ⟨sl2, rfl, h6, h7⟩ := h5
    refine ⟨_, H, ?_, hfr, sl2, rfl, h6, h7⟩
    simp only [f61_l2, n_lss, decide_eq_false hlt, z_cond, cond_false, h2, z_call, h4, z_ext0, z_ext1, z_bst1, z_resc1, z_rest_int]
  | j + 1, i, fuel, c, H, res, rest, hij, hf, hc, hrl, hrs, hres, hri, hfr, hwr, hv => by
    obtain ⟨fuel, rfl⟩ : ∃ m, fuel = m + 1 := ⟨fuel - 1, by omega⟩
    obtain ⟨x, rest, rfl⟩ : ∃ x l, rest = x :: l := by cases rest with | nil => simp at hrl | cons x l => exact ⟨x, l, rfl⟩
    have hxB : x < 4294967296 := hrs x (by simp)
    have hlt : i < n := by omega
    have hget : (limbs (res ++ x :: rest))[i]? = some (u32 x) := limbs_get (get_app_mid _ _ _ hri)
    have hw' := hw.fr hfr
    -- the other digit
    obtain ⟨y, hy, hyB, hstep⟩ : ∃ y, val (bs.drop i) = y + B * val (bs.drop (i + 1)) ∧ y < 4294967296 ∧
        f61_l2 slow K (runQ wk tab slow K (d + 3)) (.box [w]) (.box [.slice nilSl]) v (u64 c) (i64 n) (i64 i) H (slow.loop6 (f61_l2 slow K (runQ wk tab slow K (d + 3))) fuel) = f61_j4 slow K (runQ wk tab slow K (d + 3)) (slow.loop6 (f61_l2 slow K (runQ wk tab slow K (d + 3))) fuel) (.box [w]) (.box [.slice nilSl]) v (u64 (c + x + y)) (i64 i) (i64 n) (i64 i) H := by
      by_cases hib : i < bs.length
      · obtain ⟨y, hy⟩ : ∃ y, bs[i]? = some y := ⟨_, List.getElem?_eq_getElem hib⟩
        have hyB : y < 4294967296 := hbs y (List.mem_of_getElem? hy)
        have hdb : bs.drop i = y :: bs.drop (i + 1) := List.drop_eq_getElem?_toList_append (l := bs) (i := i) ▸ by rw [hy]; rfl
        refine ⟨y, by rw [hdb]; rfl, hyB, ?_⟩
        simp only [f61_l2, n_lss, decide_eq_true hlt, z_cond, cond_true, hwr.arr.load hget]
        rw [n_conv64 _ .u32 x (by omega), n_add64 _ (by omega)]
        simp only [z_lfld, z_lld0, blen hw', n_lss, decide_eq_true hib, z_cond, cond_true, hw'.load (limbs_get hy)]
        rw [n_conv64 _ .u32 y (by omega), n_add64 _ (by omega)]
      · have hdb : bs.drop i = [] := List.drop_eq_nil_iff.2 (by omega)
        have hdb2 : bs.drop (i + 1) = [] := List.drop_eq_nil_iff.2 (by omega)
        refine ⟨0, by rw [hdb, hdb2]; rfl, by decide, ?_⟩
        simp only [f61_l2, n_lss, decide_eq_true hlt, z_cond, cond_true, hwr.arr.load hget]
        rw [n_conv64 _ .u32 x (by omega), n_add64 _ (by omega)]
        simp only [z_lfld, z_lld0, blen hw', n_lss, decide_eq_false hib, z_cond, cond_false, Nat.add_zero]
    obtain ⟨H1, st, hw1, f1, sz1, _⟩ := hwr.store (i := i) (by simp; omega) (x := u32 ((c + x + y) % 4294967296)) rfl .i64
    rw [limbs_set, set_app_mid _ _ _ _ hri] at hw1
    have hdm := Nat.mod_add_div (c + x + y) 4294967296
    obtain ⟨rr, H', h1, h2, h3⟩ := add_loop K d lo hw hlo hbs hn hbn hK hroot hS j (i + 1) fuel ((c + x + y) / 4294967296) H1 (res ++ [(c + x + y) % 4294967296]) rest (by omega) (by omega) (by omega) (by simpa using hrl) (fun z hz => hrs z (by simp [hz])) (fun z hz => by
        rcases List.mem_append.1 hz with hz | hz
        · exact hres z hz
        · rw [List.mem_singleton.1 hz]; exact Nat.mod_lt _ (by decide)) (by simp [hri]) (Fr.trans hfr (by rw [← hlo]; exact f1)) hw1 (by
        rw [← hv, val_append, hri, hy]
        simp only [val, Nat.pow_succ, Nat.mul_zero, Nat.add_zero]
        have : c + x + y = (c + x + y) % 4294967296 + B * ((c + x + y) / 4294967296) := hdm.symm
        generalize (c + x + y) % 4294967296 = lo1 at *
        generalize (c + x + y) / 4294967296 = hi1 at *
        generalize val (bs.drop (i + 1)) = bv
        generalize B ^ i = P at *
        have e : c + (x + B * val rest) + (y + B * bv) = lo1 + B * (hi1 + val rest + bv) := by
          rw [Nat.mul_add, Nat.mul_add]; omega
        rw [e]
        simp only [Nat.mul_add, Nat.mul_assoc]
        omega)
    refine ⟨rr, H', ?_, h2, h3⟩
    rw [z_loop6, hstep]
    unfold f61_j4
    rw [n_conv32, st, show (SV.int .u64 32) = SV.int .u64 ((32 : Nat) : Int) from rfl, n_shr _ .u64 .u64 _ 32 (by decide), show (SV.int .i64 1) = i64 1 from rfl, n_addi _ (by omega)]
    exact h1
/-- What Add and Mul tell of a number: itself, or that it is too long. -/
theorem add_ok (K : Nat) (d : Nat) (H : Heap) {v w : SV} {a b : Nat} (hv : IsNat H v a) (hw : IsNat H w b) (hK : 1000 < K) (ha : a < 2 ^ 4096) (hb : b < 2 ^ 4096) :
    ∃ r H', runQ wk tab slow K (d + 4) 61 [v, w] H = some (.tuple [r, .int .i64 (if a + b < 2 ^ 4096 then 0 else 3)], H') ∧ Frame H H' ∧ IsNat H' r (if a + b < 2 ^ 4096 then a + b else 0) := by
  -- the longer one first
  have main : ∀ (x y : SV) (a b : Nat), Arr H x (limbs (digs a)) → Arr H y (limbs (digs b)) → a < 2 ^ 4096 → (digs b).length ≤ (digs a).length →
      ∃ r H', f61_j1 slow K (runQ wk tab slow K (d + 3)) (.box [x]) (.box [y]) (.box [.slice nilSl]) H = some (.tuple [r, .int .i64 (if a + b < 2 ^ 4096 then 0 else 3)], H') ∧ Frame H H' ∧ IsNat H' r (if a + b < 2 ^ 4096 then a + b else 0) := fun x y a b hx hy ha hl => by
    have hla := digs_len ha
    obtain ⟨u, H1, h1, w1, f1, ru, _, _⟩ := z_makeW (H := H) (lo := H.size) (Nat.le_refl _) 4 (.int .u32 0) ((digs a).length + 1) (by omega) (roomy_small (by omega)) .i64 .i64
    obtain ⟨H2, h2, w2, f2, sz2, _⟩ := wr_copy w1 (hx.fr f1) (by simp)
    rw [limbs_zeros] at w2
    have e : limbs (digs a) ++ (limbs (List.replicate ((digs a).length + 1) 0)).drop (limbs (digs a)).length = limbs ([] ++ (digs a ++ [0])) := by
      simp [limbs]
    rw [e] at w2
    have hvala : val (digs a ++ [0]) = a := by rw [val_append, val_digs]; simp [val]
    have haB : a < B ^ (digs a).length := by have := val_lt (digs_small a); rwa [val_digs] at this
    have hbB : b < B ^ (digs a).length := by
      have := val_lt (digs_small b)
      rw [val_digs] at this
      exact Nat.lt_of_lt_of_le this (Nat.pow_le_pow_right (by decide) hl)
    have hS : a + b < B ^ ((digs a).length + 1) := by
      rw [Nat.pow_succ]
      have : B ^ (digs a).length * 2 ≤ B ^ (digs a).length * B := Nat.mul_le_mul_left _ (by decide)
      omega
    obtain ⟨r, H3, h3, h4, h5⟩ := add_loop K d H.size hy rfl (digs_small b) (n := (digs a).length + 1) (by omega) (by omega) (by omega) ru hS ((digs a).length + 1) 0 K 0 H2 [] (digs a ++ [0]) (by omega) (by omega) (by omega) (by simp) (fun z hz => by
      rcases List.mem_append.1 hz with hz | hz
      · exact digs_small a z hz
      · rw [List.mem_singleton.1 hz]; decide) (fun z hz => by cases hz) rfl (Fr.trans f1 f2) w2 (by rw [hvala, List.drop_zero, val_digs]; simp [val])
    refine ⟨r, H3, ?_, h4, h5⟩
    simp only [f61_j1, z_lfld, z_lld0, blen hx]
    rw [show (SV.int .i64 1) = i64 1 from rfl, n_addi _ (by omega), h1, h2, w2.arr.len]
    have e2 : (limbs ([] ++ (digs a ++ [0]))).length = (digs a).length + 1 := by simp
    rw [e2]
    exact h3
  obtain ⟨x, rfl, hx, _⟩ := hv
  obtain ⟨y, rfl, hy, _⟩ := hw
  show ∃ r H', f61 slow K (runQ wk tab slow K (d + 3)) (.agg [x]) (.agg [y]) H = _ ∧ _
  simp only [f61, z_bbox, z_lfld, z_lld0, blen hx, blen hy, n_lss, z_cond]
  by_cases h : (digs a).length < (digs b).length
  · simp only [decide_eq_true h, cond_true, z_lload1, z_bst1]
    have := main y x b a hy hx hb (by omega)
    rwa [Nat.add_comm b a] at this
  · simp only [decide_eq_false h, cond_false]
    exact main x y a b hx hy ha (by omega)
end Go.Sh.Of
namespace Go.Sh.Of
open Go

/-! ### Sub -/
theorem borrow_eq {x y c : Nat} (hx : x < 4294967296) (hy : y < 4294967296) (hc : c ≤ 1) : ∃ z c', (x + 2 * 4294967296 - y - c) % 4294967296 = z ∧ (if x < y + c then 1 else 0) = c' ∧ z < B ∧ c' ≤ 1 ∧ z + y + c = x + B * c' := by
  refine ⟨_, _, rfl, rfl, Nat.mod_lt _ (by decide), by split <;> omega, ?_⟩
  show _ = x + 4294967296 * _
  split <;> omega
theorem less_loop (C : CallC) (K : Nat) (d : Nat) (lo : Nat) {H0 : Heap} {v w : SV} {bs : List Nat} (hw : Arr H0 w (limbs bs)) (hlo : lo = H0.size) (hbs : Small bs) {n : Nat} (hn : n < 100000) (hbn : bs.length ≤ n) {r : Nat} {S : Nat} : ∀ (j i fuel : Nat) (c : Nat) (H : Heap) (res rest : List Nat), i + j = n → j < fuel → c ≤ 1 → rest.length = j → Small rest → Small res → res.length = i → Frame H0 H → Wr lo H v r [] (limbs (res ++ rest)) [] → val res + B ^ i * val rest = S + B ^ i * (c + val (bs.drop i)) → val (bs.drop i) + c ≤ val rest →
    ∃ H' res', slow.loop5 (f67_l1 slow K (runQ wk tab slow K (d + 1))) fuel v w (u32 c) (i64 n) (i64 i) H = some (.tuple [], H') ∧ Frame H0 H' ∧ Wr lo H' v r [] (limbs res') [] ∧ Small res' ∧ val res' = S ∧ res'.length = n
  | 0, i, fuel, c, H, res, rest, hij, hf, hc, hrl, hrs, hres, hri, hfr, hwr, hv, hge => by
    obtain ⟨fuel, rfl⟩ : ∃ m, fuel = m + 1 := ⟨fuel - 1, by omega⟩
    have hrest : rest = [] := List.eq_nil_of_length_eq_zero hrl
    subst hrest
    have hdrop : bs.drop i = [] := List.drop_eq_nil_iff.2 (by omega)
    rw [hdrop] at hv hge
    simp only [val] at hv hge
    have hc0 : c = 0 := by omega
    subst hc0
    rw [List.append_nil] at hwr
    refine ⟨H, res, ?_, hfr, hwr, hres, by simpa using hv, by omega⟩
    rw [z_loop5]
    have hlt : ¬ (i < n) := by omega
    simp only [f67_l1, n_lss, decide_eq_false hlt, z_cond, cond_false, f67_j5]
  | j + 1, i, fuel, c, H, res, rest, hij, hf, hc, hrl, hrs, hres, hri, hfr, hwr, hv, hge => by
    obtain ⟨fuel, rfl⟩ : ∃ m, fuel = m + 1 := ⟨fuel - 1, by omega⟩
    obtain ⟨x, rest, rfl⟩ : ∃ x l, rest = x :: l := by cases rest with | nil => simp at hrl | cons x l => exact ⟨x, l, rfl⟩
    have hxB : x < 4294967296 := hrs x (by simp)
    have hlt : i < n := by omega
    have hget : (limbs (res ++ x :: rest))[i]? = some (u32 x) := limbs_get (get_app_mid _ _ _ hri)
    have hw' := hw.fr hfr
    -- a step with the other digit y
    have step : ∀ y, y < 4294967296 → val (bs.drop i) = y + B * val (bs.drop (i + 1)) → ∃ H' res', f67_j3 slow K (runQ wk tab slow K (d + 1)) (slow.loop5 (f67_l1 slow K (runQ wk tab slow K (d + 1))) fuel) v w (u32 c) (i64 i) (u32 y) (i64 n) (i64 i) H = some (.tuple [], H') ∧ Frame H0 H' ∧ Wr lo H' v r [] (limbs res') [] ∧ Small res' ∧ val res' = S ∧ res'.length = n := fun y hyB hy => by
      obtain ⟨z, c', hzz, hcc, hlt1, hc1, hbor⟩ := borrow_eq hxB hyB hc
      obtain ⟨H1, st, hw1, f1, sz1, _⟩ := hwr.store (i := i) (by simp; omega) (x := u32 z) rfl .i64
      rw [limbs_set, set_app_mid _ _ _ _ hri] at hw1
      rw [hy] at hv hge
      simp only [val] at hv hge
      obtain ⟨H', res', h1, h2, h3, h4, h5, h6⟩ := less_loop C K d lo hw hlo hbs hn hbn (S := S) j (i + 1) fuel c' H1 (res ++ [z]) rest (by omega) (by omega) hc1 (by simpa using hrl) (fun q hq => hrs q (by simp [hq])) (fun q hq => by
          rcases List.mem_append.1 hq with hq | hq
          · exact hres q hq
          · rw [List.mem_singleton.1 hq]; exact hlt1) (by simp [hri]) (Fr.trans hfr (by rw [← hlo]; exact f1)) hw1 (by
          rw [val_append, hri]
          simp only [val, Nat.mul_zero, Nat.add_zero, Nat.pow_succ]
          generalize val (bs.drop (i + 1)) = bv at *
          generalize val rest = rv at *
          generalize B ^ i = P at *
          have e1 : P * (z + y + c) = P * (x + B * c') := by rw [hbor]
          simp only [Nat.mul_add, Nat.mul_assoc] at hv e1 ⊢
          omega) (by
          generalize val (bs.drop (i + 1)) = bv at *
          generalize val rest = rv at *
          apply Nat.le_of_not_lt
          intro hlt2
          have : B * rv + B ≤ B * (bv + c') := by rw [← Nat.mul_succ]; exact Nat.mul_le_mul_left _ hlt2
          rw [Nat.mul_add] at this
          omega)
      refine ⟨H', res', ?_, h2, h3, h4, h5, h6⟩
      unfold f67_j3
      rw [hwr.arr.load hget, sub32_ok K d H hxB hyB hc, hzz, hcc, z_call, z_ext0, z_ext1]
      rw [st, show (SV.int .i64 1) = i64 1 from rfl, n_addi _ (by omega)]
      exact h1
    rw [z_loop5]
    by_cases hib : i < bs.length
    · obtain ⟨y, hy⟩ : ∃ y, bs[i]? = some y := ⟨_, List.getElem?_eq_getElem hib⟩
      have hyB : y < 4294967296 := hbs y (List.mem_of_getElem? hy)
      have hdb : bs.drop i = y :: bs.drop (i + 1) := List.drop_eq_getElem?_toList_append (l := bs) (i := i) ▸ by rw [hy]; rfl
      simp only [f67_l1, n_lss, decide_eq_true hlt, z_cond, cond_true, blen hw', decide_eq_true hib, hw'.load (limbs_get hy)]
      exact step y hyB (by rw [hdb]; rfl)
    · have hdb : bs.drop i = [] := List.drop_eq_nil_iff.2 (by omega)
      have hdb2 : bs.drop (i + 1) = [] := List.drop_eq_nil_iff.2 (by omega)
      simp only [f67_l1, n_lss, decide_eq_true hlt, z_cond, cond_true, blen hw', decide_eq_false hib, cond_false]
      rw [show (SV.int .u32 0) = u32 0 from rfl, n_eql, z_cond]
      by_cases hc0 : c = 0
      · subst hc0
        simp only [decide_true, cond_true, f67_j5]
        rw [hdb] at hv
        refine ⟨H, res ++ x :: rest, rfl, hfr, hwr, fun q hq => ?_, ?_, by simp at hrl; simp; omega⟩
        · rcases List.mem_append.1 hq with hq | hq
          · exact hres q hq
          · exact hrs q hq
        · rw [val_append, hri, hv]; simp [val]
      · simp only [decide_eq_false hc0, cond_false]
        exact step 0 (by decide) (by rw [hdb, hdb2]; rfl)
theorem sub_ok (K : Nat) (d : Nat) (H : Heap) {v w : SV} {a b : Nat} (hv : IsNat H v a) (hw : IsNat H w b) (hK : 1000 < K) (ha : a < 2 ^ 4096) :
    ∃ r H', runQ wk tab slow K (d + 3) 62 [v, w] H = some (.tuple [r, .int .i64 (if a < b then 10 else 0)], H') ∧ Frame H H' ∧ IsNat H' r (a - b) := by
  have hla := digs_len ha
  have hcmp := cmp_ok K (d + 1) H hv hw (by omega) (by omega)
  obtain ⟨x, rfl, hx, _⟩ := hv
  obtain ⟨y, rfl, hy, _⟩ := hw
  show ∃ r H', f62 slow K (runQ wk tab slow K (d + 2)) (.agg [x]) (.agg [y]) H = _ ∧ _
  simp only [f62, z_bbox, z_lload1, hcmp, z_call, z_lss]
  by_cases h : a < b
  · have hc : cmpN a b < 0 := by simp [cmpN, h]
    simp only [decide_eq_true hc, z_cond, cond_true, z_build0, z_bst1, z_resc1, if_pos h]
    refine ⟨_, H, rfl, Fr.refl _ _, _, rfl, ?_, rfl⟩
    rw [show a - b = 0 by omega, digs_zero]
    exact Arr.nil H
  · have hc : ¬ cmpN a b < 0 := by unfold cmpN; rw [if_neg h]; split <;> omega
    simp only [decide_eq_false hc, z_cond, cond_false, z_lfld, z_lld0, blen hx, if_neg h]
    obtain ⟨u, H1, h1, w1, f1, ru, _, _⟩ := z_makeW (H := H) (lo := H.size) (Nat.le_refl _) 4 (.int .u32 0) (digs a).length (by omega) (roomy_small (by omega)) .i64 .i64
    obtain ⟨H2, h2, w2, f2, sz2, _⟩ := wr_copy w1 (hx.fr f1) (by simp)
    have e : limbs (digs a) ++ (List.replicate (digs a).length (SV.int .u32 0)).drop (limbs (digs a)).length = limbs ([] ++ digs a) := by simp [limbs]
    rw [e] at w2
    have hbl : (digs b).length ≤ (digs a).length := by
      apply Nat.le_of_not_lt
      intro hlt
      exact h (val_cmp_len hlt)
    obtain ⟨H3, res, h3, f3, w3, s3, v3, l3⟩ := less_loop (runQ wk tab slow K (d + 2)) K d H.size hy rfl (digs_small b) (n := (digs a).length) (by omega) hbl (S := a - b) (digs a).length 0 K 0 H2 [] (digs a) (by omega) (by omega) (by omega) rfl (digs_small a) (fun q hq => by cases hq) rfl (Fr.trans f1 f2) w2 (by rw [List.drop_zero, val_digs, val_digs]; simp [val]; omega) (by rw [List.drop_zero, val_digs, val_digs]; omega)
    obtain ⟨sl, h4, h5⟩ := cut_ok K (d + 1) H3 (ds := res) w3.arr s3 ru (by omega) (by omega)
    rw [h1, h2]
    have e3 : runQ wk tab slow K (d + 2) 67 [u, y] H2 = some (.tuple [], H3) := by
      show f67 slow K (runQ wk tab slow K (d + 1)) u y H2 = _
      unfold f67
      rw [w2.arr.len]
      have e4 : (limbs ([] ++ digs a)).length = (digs a).length := by simp
      rw [e4]
      exact h3
    have hnat := h5.isNat
    rw [v3] at hnat
    simp only [e3, z_call, h4, z_bst1, z_resc1]
    exact ⟨_, H3, rfl, f3, hnat⟩

/-! ### Mul -/
theorem zeros_get {o : List Nat} {n k : Nat} (h : ∀ j, n ≤ j → j < o.length → o[j]? = some 0) (hk : n ≤ k) (hl : k < o.length) : o[k]? = some 0 := h k hk hl
theorem prod_in (C : CallC) (K : Nat) (lo : Nat) {H0 : Heap} {v w nb : SV} {as_ bs : List Nat} (va : SV) (hw : Arr H0 w (limbs bs)) (hlo : lo = H0.size) (hbs : Small bs) (k22 : SV → SV → SV → SV → SV → SV → Heap → Rs) {i la x : Nat} (hx : x < B) (hi : i < la) (hla : la < 100000) (hlb : bs.length < 100000) {r : Nat} {S : Nat} : ∀ (m j fuel : Nat) (c : Nat) (H : Heap) (o : List Nat), j + m = bs.length → m < fuel → c < B → Small o → o.length = la + bs.length → Frame H0 H → Wr lo H v r [] (limbs o) [] → (∀ q, i + bs.length ≤ q → q < o.length → o[q]? = some 0) → val o + B ^ (i + j) * (c + x * val (bs.drop j)) = S →
    ∃ o' H', slow.loop12 (f63_l3 slow K C k22) fuel (.box [w]) nb v (i64 i) (u32 x) (u64 c) va (i64 la) (i64 i) w (i64 bs.length) (i64 j) H = k22 (.box [w]) nb v va (i64 la) (i64 (i + 1)) H' ∧ Frame H0 H' ∧ Wr lo H' v r [] (limbs o') [] ∧ Small o' ∧ o'.length = la + bs.length ∧ val o' = S ∧ (∀ q, i + 1 + bs.length ≤ q → q < o'.length → o'[q]? = some 0)
  | 0, j, fuel, c, H, o, hij, hf, hc, hos, hol, hfr, hwr, hz, hv => by
    obtain ⟨fuel, rfl⟩ : ∃ m, fuel = m + 1 := ⟨fuel - 1, by omega⟩
    have hj : j = bs.length := by omega
    subst hj
    have hw' := hw.fr hfr
    have h0 : o[i + bs.length]? = some 0 := hz _ (Nat.le_refl _) (by omega)
    have hcB : c % 4294967296 = c := Nat.mod_eq_of_lt hc
    obtain ⟨H1, st, hw1, f1, sz1, _⟩ := hwr.store (i := i + bs.length) (by simp; omega) (x := u32 c) rfl .i64
    rw [limbs_set] at hw1
    have hvs := val_set (z := c) h0
    rw [List.drop_length] at hv
    refine ⟨o.set (i + bs.length) c, H1, ?_, Fr.trans hfr (by rw [← hlo]; exact f1), hw1, small_set hos hc, by simpa using hol, ?_, fun q h1 h2 => ?_⟩
    · rw [z_loop12]
      have hlt : ¬ (bs.length < bs.length) := Nat.lt_irrefl _
      simp only [f63_l3, n_lss, decide_eq_false hlt, z_cond, cond_false, z_lfld, z_lld0, blen hw']
      rw [n_addi _ (by omega), n_conv32, hcB, st, show (SV.int .i64 1) = i64 1 from rfl, n_addi _ (by omega)]
    · simp only [val, Nat.mul_zero, Nat.add_zero, Nat.zero_mul] at hv hvs
      rw [hvs, ← hv, Nat.mul_comm c]
    · rw [List.getElem?_set_ne (by omega)]
      exact hz q (by omega) (by simpa using h2)
  | m + 1, j, fuel, c, H, o, hij, hf, hc, hos, hol, hfr, hwr, hz, hv => by
    obtain ⟨fuel, rfl⟩ : ∃ m, fuel = m + 1 := ⟨fuel - 1, by omega⟩
    have hlt : j < bs.length := by omega
    have hw' := hw.fr hfr
    obtain ⟨y, hy⟩ : ∃ y, bs[j]? = some y := ⟨_, List.getElem?_eq_getElem hlt⟩
    have hyB : y < 4294967296 := hbs y (List.mem_of_getElem? hy)
    have hdb : bs.drop j = y :: bs.drop (j + 1) := List.drop_eq_getElem?_toList_append (l := bs) (i := j) ▸ by rw [hy]; rfl
    obtain ⟨z, hz1⟩ : ∃ z, o[i + j]? = some z := ⟨_, List.getElem?_eq_getElem (by omega)⟩
    have hzB : z < 4294967296 := hos z (List.mem_of_getElem? hz1)
    have hxB : x < 4294967296 := hx
    have hcB : c < 4294967296 := hc
    have hxy : x * y ≤ 4294967295 * 4294967295 := Nat.mul_le_mul (by omega) (by omega)
    have hdm := Nat.mod_add_div (c + (x * y + z)) 4294967296
    obtain ⟨H1, st, hw1, f1, sz1, _⟩ := hwr.store (i := i + j) (by simp; omega) (x := u32 ((c + (x * y + z)) % 4294967296)) rfl .i64
    rw [limbs_set] at hw1
    have hvs := val_set (z := (c + (x * y + z)) % 4294967296) hz1
    have hlo1 : (c + (x * y + z)) % 4294967296 < B := Nat.mod_lt _ (by decide)
    have hhi1 : (c + (x * y + z)) / 2 ^ 32 < B := by
      show _ < 4294967296
      omega
    obtain ⟨o', H', h1, h2, h3, h4, h5, h6, h7⟩ := prod_in C K lo va hw hlo hbs k22 (nb := nb) (as_ := as_) hx hi hla hlb (S := S) m (j + 1) fuel ((c + (x * y + z)) / 2 ^ 32) H1 (o.set (i + j) ((c + (x * y + z)) % 4294967296)) (by omega) (by omega) hhi1 (small_set hos hlo1) (by simpa using hol) (Fr.trans hfr (by rw [← hlo]; exact f1)) hw1 (fun q q1 q2 => by
        rw [List.getElem?_set_ne (by omega)]
        exact hz q q1 (by simpa using q2)) (by
        rw [← hv, hdb]
        simp only [val]
        rw [show i + (j + 1) = (i + j) + 1 by omega, Nat.pow_succ]
        have e : c + (x * y + z) = (c + (x * y + z)) % 4294967296 + B * ((c + (x * y + z)) / 2 ^ 32) := hdm.symm
        generalize (c + (x * y + z)) % 4294967296 = p at *
        generalize (c + (x * y + z)) / 2 ^ 32 = q at *
        generalize val (bs.drop (j + 1)) = bv at *
        generalize B ^ (i + j) = P at *
        have e2 : P * (c + (x * y + z)) = P * (p + B * q) := by rw [e]
        have e3 : x * (B * bv) = B * (x * bv) := by rw [← Nat.mul_assoc, Nat.mul_comm x B, Nat.mul_assoc]
        simp only [Nat.mul_add, Nat.mul_assoc, e3] at e2 hvs ⊢
        rw [Nat.mul_comm z P, Nat.mul_comm p P] at hvs
        omega)
    refine ⟨o', H', ?_, h2, h3, h4, h5, h6, h7⟩
    rw [z_loop12]
    simp only [f63_l3, n_lss, decide_eq_true hlt, z_cond, cond_true, hw'.load (limbs_get hy)]
    rw [n_conv64 _ .u32 x (by omega), n_conv64 _ .u32 y (by omega), n_mul64 _ (by omega), n_addi _ (by omega), hwr.arr.load (limbs_get hz1), n_conv64 _ .u32 z (by omega), n_add64 _ (by omega), n_add64 _ (by omega)]
    rw [n_addi _ (by omega), n_conv32, st, show (SV.int .u64 32) = SV.int .u64 ((32 : Nat) : Int) from rfl, n_shr _ .u64 .u64 _ 32 (by decide), show (SV.int .i64 1) = i64 1 from rfl, n_addi _ (by omega)]
    exact h1
theorem prod_out (K : Nat) (d : Nat) (lo : Nat) {H0 : Heap} {v va w : SV} {xs bs : List Nat} (ha : Arr H0 va (limbs xs)) (hw : Arr H0 w (limbs bs)) (hlo : lo = H0.size) (hxs : Small xs) (hbs : Small bs) (hla : xs.length < 100000) (hlb : bs.length < 100000) (hK : 200000 < K) (hroot : Root v) {r : Nat} : ∀ (m i fuel : Nat) (H : Heap) (o : List Nat), i + m = xs.length → m < fuel → Small o → o.length = xs.length + bs.length → Frame H0 H → Wr lo H v r [] (limbs o) [] → (∀ q, i + bs.length ≤ q → q < o.length → o[q]? = some 0) → val o + B ^ i * (val (xs.drop i) * val bs) = val xs * val bs →
    ∃ rr H', slow.loop6 (f63_l1 slow K (runQ wk tab slow K (d + 1))) fuel (.box [w]) (.box [.slice nilSl]) v va (i64 xs.length) (i64 i) H = some (rr, H') ∧ Frame H0 H' ∧ IsNat H' rr (val xs * val bs)
  | 0, i, fuel, H, o, hij, hf, hos, hol, hfr, hwr, hz, hv => by
    obtain ⟨fuel, rfl⟩ : ∃ m, fuel = m + 1 := ⟨fuel - 1, by omega⟩
    have hi : i = xs.length := by omega
    subst hi
    rw [List.drop_length] at hv
    have hvo : val o = val xs * val bs := by simpa [val] using hv
    obtain ⟨sl, h2, h3⟩ := cut_ok K d H (ds := o) hwr.arr hos hroot (by omega) (by omega)
    have hnat := h3.isNat
    rw [hvo] at hnat
    rw [z_loop6]
    have hlt : ¬ (xs.length < xs.length) := Nat.lt_irrefl _
    simp only [f63_l1, n_lss, decide_eq_false hlt, z_cond, cond_false, h2, z_call, z_bst1, z_resc1]
    exact ⟨_, H, rfl, hfr, hnat⟩
  | m + 1, i, fuel, H, o, hij, hf, hos, hol, hfr, hwr, hz, hv => by
    obtain ⟨fuel, rfl⟩ : ∃ m, fuel = m + 1 := ⟨fuel - 1, by omega⟩
    have hlt : i < xs.length := by omega
    obtain ⟨x, hx⟩ : ∃ x, xs[i]? = some x := ⟨_, List.getElem?_eq_getElem hlt⟩
    have hdx : xs.drop i = x :: xs.drop (i + 1) := List.drop_eq_getElem?_toList_append (l := xs) (i := i) ▸ by rw [hx]; rfl
    have ha' := ha.fr hfr
    have hw' := hw.fr hfr
    obtain ⟨o', H1, h1, f1, w1, s1, l1, v1, z1⟩ := prod_in (runQ wk tab slow K (d + 1)) K lo (nb := .box [.slice nilSl]) (as_ := xs) va hw hlo hbs (slow.loop6 (f63_l1 slow K (runQ wk tab slow K (d + 1))) fuel) (i := i) (la := xs.length) (x := x) (hxs x (List.mem_of_getElem? hx)) hlt hla hlb (S := val o + B ^ i * (x * val bs)) bs.length 0 K 0 H o (by omega) (by omega) (by decide) hos hol hfr hwr hz (by rw [List.drop_zero]; simp)
    obtain ⟨rr, H2, h2, f2, n2⟩ := prod_out K d lo ha hw hlo hxs hbs hla hlb hK hroot m (i + 1) fuel H1 o' (by omega) (by omega) s1 l1 f1 w1 z1 (by
      rw [v1, ← hv, hdx, Nat.pow_succ]
      simp only [val]
      generalize val (xs.drop (i + 1)) = xv
      generalize val bs = bv
      generalize B ^ i = P
      simp only [Nat.mul_add, Nat.add_mul, Nat.mul_assoc]
      omega)
    refine ⟨rr, H2, ?_, f2, n2⟩
    rw [z_loop6]
    simp only [f63_l1, n_lss, decide_eq_true hlt, z_cond, cond_true, ha'.load (limbs_get hx), z_lfld, z_lld0, blen hw']
    rw [show (SV.int .u64 0) = u64 0 from rfl, show (SV.int .i64 0) = i64 0 from rfl, h1]
    exact h2
theorem product_ok (K : Nat) (d : Nat) (H : Heap) {v w : SV} {a b : Nat} (hv : IsNat H v a) (hw : IsNat H w b) (hK : 200000 < K) (ha : a < 2 ^ 4096) (hb : b < 2 ^ 4096) :
    ∃ r H', runQ wk tab slow K (d + 2) 63 [v, w] H = some (r, H') ∧ Frame H H' ∧ IsNat H' r (a * b) := by
  have hla := digs_len ha
  have hlb := digs_len hb
  obtain ⟨x, rfl, hx, _⟩ := hv
  obtain ⟨y, rfl, hy, _⟩ := hw
  show ∃ r H', f63 slow K (runQ wk tab slow K (d + 1)) (.agg [x]) (.agg [y]) H = _ ∧ _
  simp only [f63, z_bbox, z_lfld, z_lld0, blen hx, blen hy]
  rw [n_addi _ (by omega)]
  obtain ⟨u, H1, h1, w1, f1, ru, _, _⟩ := z_makeW (H := H) (lo := H.size) (Nat.le_refl _) 4 (.int .u32 0) ((digs a).length + (digs b).length) (by omega) (roomy_small (by omega)) .i64 .i64
  rw [limbs_zeros] at w1
  rw [h1]
  have := prod_out K d H.size hx hy rfl (digs_small a) (digs_small b) (by omega) (by omega) hK ru (digs a).length 0 K H1 (List.replicate ((digs a).length + (digs b).length) 0) (by omega) (by omega) (small_zeros _) (by simp) f1 w1 (fun q _ h => by rw [List.getElem?_replicate]; rw [List.length_replicate] at h; rw [if_pos h]) (by rw [val_zeros, List.drop_zero]; simp)
  rw [val_digs, val_digs] at this
  exact this
/-- The factors' bits tell whether a product is too long. -/
theorem bits_mul {a b : Nat} (hba' : bl a ≤ 4096) (hbb' : bl b ≤ 4096) (h : bl a + bl b > 4097) : ¬ a * b < 2 ^ 4096 := by
  intro hlt
  have hz : bl 0 = 0 := rfl
  have ha : a ≠ 0 := fun e => by subst e; omega
  have hb : b ≠ 0 := fun e => by subst e; omega
  have h1 : 2 ^ (bl a - 1) ≤ a := by
    unfold bl; rw [if_neg ha]; exact Nat.log2_self_le ha
  have h2 : 2 ^ (bl b - 1) ≤ b := by
    unfold bl; rw [if_neg hb]; exact Nat.log2_self_le hb
  have h3 : 2 ^ ((bl a - 1) + (bl b - 1)) ≤ a * b := by rw [Nat.pow_add]; exact Nat.mul_le_mul h1 h2
  have hba : 1 ≤ bl a := by unfold bl; rw [if_neg ha]; omega
  have hbb : 1 ≤ bl b := by unfold bl; rw [if_neg hb]; omega
  have h4 : 2 ^ 4096 ≤ 2 ^ ((bl a - 1) + (bl b - 1)) := pow_mono2 4096 _ (by omega)
  exact absurd hlt (Nat.not_lt.2 (Nat.le_trans h4 h3))
theorem lt_B2 {m k l a b : Nat} (h : 32 * m = k + l) (ha : a < 2 ^ k) (hb : b < 2 ^ l) : a * b < B ^ m := by
  rw [pow_B2 h]
  exact Nat.mul_lt_mul'' ha hb
theorem mul_nat_ok (K : Nat) (d : Nat) (H : Heap) {v w : SV} {a b : Nat} (hv : IsNat H v a) (hw : IsNat H w b) (hK : 200000 < K) (ha : a < 2 ^ 4096) (hb : b < 2 ^ 4096) :
    ∃ r H', runQ wk tab slow K (d + 4) 51 [v, w] H = some (.tuple [r, .int .i64 (if a * b < 2 ^ 4096 then 0 else 3)], H') ∧ Frame H H' ∧ IsNat H' r (if a * b < 2 ^ 4096 then a * b else 0) := by
  have hla := digs_len ha
  have hlb := digs_len hb
  have b1 := bits_ok K (d + 1) H hv (by omega)
  have b2 := bits_ok K (d + 1) H hw (by omega)
  obtain ⟨p, H1, h1, f1, n1⟩ := product_ok K (d + 1) H hv hw hK ha hb
  have hpl : (digs (a * b)).length ≤ 256 := digs_len_le (k := 256) (by
    exact lt_B2 (k := 4096) (l := 4096) rfl ha hb)
  obtain ⟨rr, h2, n2⟩ := fits_ok K d H1 n1 (by omega)
  have hbla : bl a ≤ 4096 := bl_le.2 ha
  have hblb : bl b ≤ 4096 := bl_le.2 hb
  obtain ⟨x, rfl, hx, hxf⟩ := hv
  obtain ⟨y, rfl, hy, hyf⟩ := hw
  show ∃ r H', f51 slow K (runQ wk tab slow K (d + 3)) (.agg [x]) (.agg [y]) H = _ ∧ _
  simp only [f51, z_bbox, z_lload1, b1, b2, z_call]
  rw [n_addi _ (by omega), show (SV.int .i64 4097) = i64 4097 from rfl, n_gtr, z_cond]
  by_cases h : bl a + bl b > 4097
  · have hne := bits_mul hbla hblb h
    simp only [decide_eq_true h, cond_true, z_build0, z_bst1, z_resc1, if_neg hne]
    exact ⟨_, H, rfl, Fr.refl _ _, _, rfl, by rw [digs_zero]; exact Arr.nil H, rfl⟩
  · obtain ⟨sl, rfl, n3, n4⟩ := n2
    simp only [decide_eq_false h, cond_false, h1, z_call, h2, z_ext0, z_ext1, z_bst1, z_resc1, z_rest_int]
    exact ⟨_, H1, rfl, f1, sl, rfl, n3, n4⟩
end Go.Sh.Of

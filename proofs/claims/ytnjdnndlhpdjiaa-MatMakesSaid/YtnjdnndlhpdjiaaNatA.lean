/- Contracts of the package nat: cut, Of, Bits, fits, Cmp, short. -/
import Derived.Test.YtnjdnndlhpdjiaaWk
import Derived.Test.YtnjdnndlhpdjiaaSh30
set_option linter.unusedVariables false
set_option linter.unusedSimpArgs false
namespace Go.Sh.Of
open Go

theorem limbs_len (ds : List Nat) : (limbs ds).length = ds.length := by simp
theorem limbs_get {ds : List Nat} {i d : Nat} (h : ds[i]? = some d) : (limbs ds)[i]? = some (u32 d) := by simp [h]
theorem blen {H : Heap} {v : SV} {ds : List Nat} (hv : Arr H v (limbs ds)) (k : K1) : slow.len v k = k (i64 ds.length) := by rw [hv.len]; simp
/-- What cut answers: the digits without noughts at the end. -/
def CutOk (H : Heap) (v : SV) (ds : List Nat) (sl : SV) : Prop :=
  Arr H sl (limbs (digs (val ds))) ∧ sl.flat = true ∧ Root sl ∧ ∀ lo r pre post, Wr lo H v r pre (limbs ds) post → ∃ post', Wr lo H sl r pre (limbs (digs (val ds))) post'
theorem cut_end {H : Heap} {v : SV} {ds : List Nat} (hv : Arr H v (limbs ds)) (hs : Small ds) (hr : Root v) {n : Nat} (hn : n ≤ ds.length) (hval : val (ds.take n) = val ds) (hlast : ∀ d, (ds.take n).getLast? = some d → d ≠ 0) :
    ∃ sl, (∀ k, slow.slice011 1 v (i64 n) (i64 n) H k = k sl) ∧ CutOk H v ds sl := by
  obtain ⟨sl, h1, h2, h3, h4, h5⟩ := hv.slice011 (n := n) (by rw [limbs_len]; exact hn) (.inr hr) .i64 .i64
  have e : digs (val ds) = ds.take n := by
    rw [← hval]
    exact digs_val (fun d hd => hs d (List.mem_of_mem_take hd)) hlast
  have e2 : (limbs ds).take n = limbs (digs (val ds)) := by rw [e]; exact List.map_take.symm
  exact ⟨sl, h1, by rw [← e2]; exact h2, h4, h3 hr, fun lo r pre post hw => ⟨_, by rw [← e2]; exact h5 lo r pre post hw⟩⟩
theorem cut_loop (C : CallC) (K : Nat) (H : Heap) {v : SV} {ds : List Nat} (hv : Arr H v (limbs ds)) (hs : Small ds) (hr : Root v) (hb : ds.length < 1000000000) : ∀ (n fuel : Nat), n ≤ ds.length → n < fuel → val (ds.take n) = val ds →
    ∃ sl, slow.loop3 (f46_l1 slow K C) fuel v (.box [.slice nilSl]) (i64 n) H = some (.agg [sl], H) ∧ CutOk H v ds sl
  | 0, fuel, hn, hf, hval => by
    obtain ⟨fuel, rfl⟩ : ∃ m, fuel = m + 1 := ⟨fuel - 1, by omega⟩
    obtain ⟨sl, h1, h2⟩ := cut_end hv hs hr hn hval (fun d hd => by simp at hd)
    refine ⟨sl, ?_, h2⟩
    rw [z_loop3]
    have h00 : ¬ (((0 : Nat) : Int) > 0) := by omega
    simp only [f46_l1, z_gtr, decide_eq_false h00, z_guard, cond_false, f46_j2, z_cond]
    simp only [h1, z_build1 _ _ h2.2.1, z_bst1, z_resc1]
  | n + 1, fuel, hn, hf, hval => by
    obtain ⟨fuel, rfl⟩ : ∃ m, fuel = m + 1 := ⟨fuel - 1, by omega⟩
    obtain ⟨d, hd⟩ : ∃ d, ds[n]? = some d := ⟨_, List.getElem?_eq_getElem (by omega)⟩
    have hpos : (((n + 1 : Nat) : Int)) > 0 := by omega
    have htk : ds.take (n + 1) = ds.take n ++ [d] := by rw [List.take_add_one, hd]; rfl
    rw [z_loop3]
    simp only [f46_l1, z_gtr, decide_eq_true hpos, z_guard, cond_true]
    rw [z_sub64 (by omega) (by omega)]
    have e : (((n + 1 : Nat) : Int) - 1) = (n : Int) := by omega
    rw [e]
    simp only [hv.load (limbs_get hd), z_eql]
    by_cases h0 : d = 0
    · subst h0
      have hb0 : (((0 : Nat) : Int) == 0) = true := rfl
      simp only [hb0, f46_j2, z_cond, cond_true]
      rw [z_sub64 (by omega) (by omega), e]
      exact cut_loop C K H hv hs hr hb n fuel (by omega) (by omega) (by rw [← hval, htk, val_append]; simp [val])
    · have hb0 : ((d : Int) == 0) = false := by simp [h0]
      obtain ⟨sl, h1, h2⟩ := cut_end hv hs hr hn hval (fun d' hd' => by rw [htk] at hd'; simp at hd'; omega)
      refine ⟨sl, ?_, h2⟩
      simp only [hb0, f46_j2, z_cond, cond_false]
      simp only [h1, z_build1 _ _ h2.2.1, z_bst1, z_resc1]
theorem cut_ok (K : Nat) (d : Nat) (H : Heap) {v : SV} {ds : List Nat} (hv : Arr H v (limbs ds)) (hs : Small ds) (hr : Root v) (hK : ds.length < K) (hb : ds.length < 1000000000) :
    ∃ sl, runQ wk tab slow K (d + 1) 46 [v] H = some (.agg [sl], H) ∧ CutOk H v ds sl := by
  show ∃ sl, f46 slow K (runQ wk tab slow K d) v H = _ ∧ _
  simp only [f46, blen hv]
  exact cut_loop _ K H hv hs hr hb ds.length K (Nat.le_refl _) hK (by rw [List.take_length])
theorem CutOk.isNat {H : Heap} {v : SV} {ds : List Nat} {sl : SV} (h : CutOk H v ds sl) : IsNat H (.agg [sl]) (val ds) := ⟨sl, rfl, h.1, h.2.1⟩
/-- Of. -/
theorem of_ok (K : Nat) (hK : 2 < K) (d : Nat) (H : Heap) {n : Nat} (hn : n < 18446744073709551616) :
    ∃ r H', runQ wk tab slow K (d + 2) 19 [u64 n] H = some (r, H') ∧ Frame H H' ∧ IsNat H' r n := by
  show ∃ r H', f19 slow K (runQ wk tab slow K (d + 1)) (u64 n) H = _ ∧ _
  obtain ⟨v, H1, h1, ho, hf, _, _⟩ := z_lay2 (H := H) (lo := H.size) (Nat.le_refl _) (.int .u32 0) (.int .u32 0) (x := u32 (n % 4294967296)) (y := u32 (n / 2 ^ 32 % 4294967296)) rfl rfl
  have hs : Small [n % 4294967296, n / 2 ^ 32 % 4294967296] := by
    intro x hx
    rcases List.mem_cons.1 hx with rfl | hx
    · exact Nat.mod_lt _ (by decide)
    · rcases List.mem_cons.1 hx with rfl | hx
      · exact Nat.mod_lt _ (by decide)
      · cases hx
  obtain ⟨sl, h2, h3⟩ := cut_ok K d H1 (ds := [n % 4294967296, n / 2 ^ 32 % 4294967296]) ho.arr hs ho.root (by simpa using hK) (by simp)
  have hv : val [n % 4294967296, n / 2 ^ 32 % 4294967296] = n := by
    simp only [val, B]; omega
  refine ⟨.agg [sl], H1, ?_, hf, by have := h3.isNat; rwa [hv] at this⟩
  simp only [f19, n_conv32]
  rw [show (SV.int .u64 32) = SV.int .u64 ((32 : Nat) : Int) from rfl, n_shr _ .u64 .u64 n 32 (by decide)]
  simp only [n_conv32, h1, h2, z_call, z_bst1, z_resc1]
/-- How many bits, of a number of the machine. -/
abbrev len8 : List UInt8 := [0, 1, 2, 2, 3, 3, 3, 3, 4, 4, 4, 4, 4, 4, 4, 4, 5, 5, 5, 5, 5, 5, 5, 5, 5, 5, 5, 5, 5, 5, 5, 5, 6, 6, 6, 6, 6, 6, 6, 6, 6, 6, 6, 6, 6, 6, 6, 6, 6, 6, 6, 6, 6, 6, 6, 6, 6, 6, 6, 6, 6, 6, 6, 6, 7, 7, 7, 7, 7, 7, 7, 7, 7, 7, 7, 7, 7, 7, 7, 7, 7, 7, 7, 7, 7, 7, 7, 7, 7, 7, 7, 7, 7, 7, 7, 7, 7, 7, 7, 7, 7, 7, 7, 7, 7, 7, 7, 7, 7, 7, 7, 7, 7, 7, 7, 7, 7, 7, 7, 7, 7, 7, 7, 7, 7, 7, 7, 7, 8, 8, 8, 8, 8, 8, 8, 8, 8, 8, 8, 8, 8, 8, 8, 8, 8, 8, 8, 8, 8, 8, 8, 8, 8, 8, 8, 8, 8, 8, 8, 8, 8, 8, 8, 8, 8, 8, 8, 8, 8, 8, 8, 8, 8, 8, 8, 8, 8, 8, 8, 8, 8, 8, 8, 8, 8, 8, 8, 8, 8, 8, 8, 8, 8, 8, 8, 8, 8, 8, 8, 8, 8, 8, 8, 8, 8, 8, 8, 8, 8, 8, 8, 8, 8, 8, 8, 8, 8, 8, 8, 8, 8, 8, 8, 8, 8, 8, 8, 8, 8, 8, 8, 8, 8, 8, 8, 8, 8, 8, 8, 8, 8, 8, 8, 8, 8, 8, 8, 8, 8, 8, 8, 8, 8, 8, 8, 8]
set_option maxRecDepth 100000 in
theorem len8_all : ∀ n : Fin 256, len8[n.1]? = some (UInt8.ofNat (bl n.1)) := by decide +kernel
theorem bl_small {n k : Nat} (h : n < 2 ^ k) : bl n ≤ k := bl_le.2 h
theorem len8_get {n : Nat} (h : n < 256) : len8[n]? = some (UInt8.ofNat (bl n)) := len8_all ⟨n, h⟩
set_option maxRecDepth 100000 in
theorem len32_ok (K : Nat) (d : Nat) (H : Heap) {n : Nat} (hn : n < 4294967296) : runQ wk tab slow K (d + 1) 49 [u32 n] H = some (i64 (bl n), H) := by
  show f49 slow K (runQ wk tab slow K d) (u32 n) H = _
  have e2 : ∀ (m s : Nat), m < 256 → s < 100 → f49_j2 slow K (runQ wk tab slow K d) (u32 m) (i64 s) H = some (i64 (s + bl m), H) := fun m s hm hs => by
    have hbl : bl m ≤ 8 := bl_small (by simpa using hm)
    have hst : ∀ k, slow.stridx (.str len8) (u8 (m % 256)) k = k (u8 (bl m)) := fun k => by
      have e : (UInt8.ofNat (bl m)).toNat = bl m := by simp; omega
      rw [z_stridx k (len8_get (Nat.mod_lt m (by decide))) .u8, Nat.mod_eq_of_lt hm, e]
    unfold f49_j2
    rw [n_conv8]
    rw [hst, n_convi _ _ _ (by omega), n_addi _ (by omega), z_rest_int]
  have e1 : ∀ (m s : Nat), m < 65536 → s < 50 → f49_j1 slow K (runQ wk tab slow K d) (u32 m) (i64 s) H = some (i64 (s + bl m), H) := fun m s hm hs => by
    unfold f49_j1
    rw [show (SV.int .u32 256) = SV.int .u32 ((256 : Nat) : Int) from rfl, n_geq, z_cond]
    by_cases h : m ≥ 256
    · rw [decide_eq_true h, cond_true, show (SV.int .u64 8) = SV.int .u64 ((8 : Nat) : Int) from rfl, n_shr _ .u32 .u64 m 8 (by decide), show (SV.int .i64 8) = i64 8 from rfl, n_addi _ (by omega), e2 _ _ (by omega) (by omega)]
      rw [bl_shift (show 2 ^ 8 ≤ m from h), Nat.add_assoc]
    · rw [decide_eq_false h, cond_false, e2 _ _ (by omega) (by omega)]
  unfold f49
  rw [show (SV.int .u32 65536) = SV.int .u32 ((65536 : Nat) : Int) from rfl, n_geq, z_cond]
  by_cases h : n ≥ 65536
  · rw [decide_eq_true h, cond_true, show (SV.int .u64 16) = SV.int .u64 ((16 : Nat) : Int) from rfl, n_shr _ .u32 .u64 n 16 (by decide), show (SV.int .i64 16) = i64 16 from rfl, e1 _ _ (by omega) (by omega)]
    rw [bl_shift (show 2 ^ 16 ≤ n from h)]
  · rw [decide_eq_false h, cond_false, show (SV.int .i64 0) = i64 0 from rfl, e1 _ _ (by omega) (by omega), Nat.zero_add]
theorem bits_ok (K : Nat) (d : Nat) (H : Heap) {v : SV} {n : Nat} (hv : IsNat H v n) (hb : (digs n).length < 10000000) : runQ wk tab slow K (d + 2) 32 [v] H = some (i64 (bl n), H) := by
  obtain ⟨sl, rfl, ha, _⟩ := hv
  show f32 slow K (runQ wk tab slow K (d + 1)) (.agg [sl]) H = _
  by_cases h0 : n = 0
  · subst h0
    rw [digs_zero] at ha
    simp only [f32, z_bbox, z_lfld, z_lld0, blen ha, z_eql, z_cond]
    rfl
  · obtain ⟨x, h1, h2, h3, h4⟩ := bl_digs h0
    have hb32 : bl x ≤ 32 := bl_small h3
    have hlen : 0 < (digs n).length := by
      cases hd : digs n with
      | nil => rw [hd] at h1; cases h1
      | cons _ _ => simp
    have hx : (digs n)[(digs n).length - 1]? = some x := by rw [← List.getLast?_eq_getElem?]; exact h1
    have hne : (((digs n).length : Int) == 0) = false := beq_eq_false_iff_ne.2 (by omega)
    simp only [f32, z_bbox, z_lfld, z_lld0, blen ha, z_eql, hne, z_cond, cond_false]
    rw [show (SV.int .i64 1) = i64 1 from rfl, n_subi _ (by omega) (by omega), show (SV.int .i64 32) = i64 32 from rfl, n_muli _ (by omega), n_subi _ (by omega) (by omega)]
    rw [ha.load (limbs_get hx), len32_ok K d H h3, z_call, n_addi _ (by omega), z_rest_int, h4]
/-- fits: the number, or the error. -/
theorem fits_ok (K : Nat) (d : Nat) (H : Heap) {v : SV} {n : Nat} (hv : IsNat H v n) (hb : (digs n).length < 10000000) :
    ∃ r, runQ wk tab slow K (d + 3) 67 [v] H = some (.tuple [r, .int .i64 (if n < 2 ^ 4096 then 0 else 3)], H) ∧ IsNat H r (if n < 2 ^ 4096 then n else 0) := by
  have hbits := bits_ok K d H hv hb
  obtain ⟨sl, rfl, ha, hf⟩ := hv
  show ∃ r, f67 slow K (runQ wk tab slow K (d + 2)) (.agg [sl]) H = _ ∧ _
  simp only [f67, z_bbox, z_lload1, hbits, z_call]
  rw [show (SV.int .i64 4096) = i64 4096 from rfl]
  simp only [n_gtr, z_cond]
  by_cases h : n < 2 ^ 4096
  · have hn : ¬ bl n > 4096 := Nat.not_lt.2 (bl_le.2 h)
    simp only [decide_eq_false hn, cond_false, z_bst1, z_resc1, if_pos h]
    exact ⟨_, rfl, sl, rfl, ha, hf⟩
  · have hn : bl n > 4096 := Nat.lt_of_not_le fun hle => h ((bl_le (k := 4096)).1 hle)
    simp only [decide_eq_true hn, cond_true, z_build0, z_bst1, z_resc1, if_neg h]
    exact ⟨_, rfl, _, rfl, by rw [digs_zero]; exact Arr.nil H, rfl⟩
/-- Which is the greater. -/
def cmpN (a b : Nat) : Int := if a < b then -1 else if a > b then 1 else 0
theorem val_cmp_len {a b : Nat} (h : (digs a).length < (digs b).length) : a < b := by
  have h1 := val_lt (digs_small a)
  rw [val_digs] at h1
  have hb0 : b ≠ 0 := fun e => by subst e; rw [digs_zero] at h; simp at h
  apply Nat.lt_of_not_le
  intro hle
  have : b < B ^ (digs a).length := Nat.lt_of_le_of_lt hle h1
  have := digs_len_le this
  omega
theorem cmp_loop (C : CallC) (K : Nat) (H : Heap) {v w : SV} {xs ys : List Nat} (hv : Arr H v (limbs xs)) (hw : Arr H w (limbs ys)) (hl : xs.length = ys.length) (ha : Small xs) (hb : Small ys) (hlen : xs.length < 1000000000) : ∀ (n fuel : Nat), n ≤ xs.length → n < fuel → val (xs.drop n) = val (ys.drop n) →
    slow.loop3 (f60_l3 slow K C) fuel (.box [v]) (.box [w]) (.int .i64 ((n : Int) - 1)) H = some (.int .i64 (cmpN (val xs) (val ys)), H)
  | 0, fuel, hn, hf, he => by
    obtain ⟨fuel, rfl⟩ : ∃ m, fuel = m + 1 := ⟨fuel - 1, by omega⟩
    rw [z_loop3]
    have h0 : ¬ (((0 : Nat) : Int) - 1 ≥ 0) := by omega
    simp only [f60_l3, z_geq, decide_eq_false h0, z_cond, cond_false]
    simp only [List.drop_zero] at he
    simp [cmpN, he]
  | n + 1, fuel, hn, hf, he => by
    obtain ⟨fuel, rfl⟩ : ∃ m, fuel = m + 1 := ⟨fuel - 1, by omega⟩
    obtain ⟨x, hx⟩ : ∃ x, xs[n]? = some x := ⟨_, List.getElem?_eq_getElem (by omega)⟩
    obtain ⟨y, hy⟩ : ∃ y, ys[n]? = some y := ⟨_, List.getElem?_eq_getElem (by omega)⟩
    have hda : xs.drop n = x :: xs.drop (n + 1) := List.drop_eq_getElem?_toList_append (l := xs) (i := n) ▸ by rw [hx]; rfl
    have hdb : ys.drop n = y :: ys.drop (n + 1) := List.drop_eq_getElem?_toList_append (l := ys) (i := n) ▸ by rw [hy]; rfl
    rw [z_loop3]
    have h0 : (((n + 1 : Nat) : Int) - 1 ≥ 0) := by omega
    have e : (((n + 1 : Nat) : Int) - 1) = (n : Int) := by omega
    simp only [f60_l3, z_geq, decide_eq_true h0, z_cond, cond_true, z_lfld, z_lld0]
    rw [e]
    simp only [hv.load (limbs_get hx), hw.load (limbs_get hy), n_lss, n_gtr, z_cond]
    have hxs := ha x (List.mem_of_getElem? hx)
    have hys := hb y (List.mem_of_getElem? hy)
    have hva : val xs = val (xs.take n) + B ^ n * (x + B * val (xs.drop (n + 1))) := by
      conv => lhs; rw [← List.take_append_drop n xs, val_append, hda]
      rw [List.length_take_of_le (by omega)]; rfl
    have hvb : val ys = val (ys.take n) + B ^ n * (y + B * val (ys.drop (n + 1))) := by
      conv => lhs; rw [← List.take_append_drop n ys, val_append, hdb]
      rw [List.length_take_of_le (by omega)]; rfl
    have hta : val (xs.take n) < B ^ n := by
      have := val_lt (ds := xs.take n) fun d hd => ha d (List.mem_of_mem_take hd)
      rwa [List.length_take_of_le (by omega)] at this
    have htb : val (ys.take n) < B ^ n := by
      have := val_lt (ds := ys.take n) fun d hd => hb d (List.mem_of_mem_take hd)
      rwa [List.length_take_of_le (by omega)] at this
    have key : ∀ p q : Nat, p < q → p + B * val (ys.drop (n + 1)) + 1 ≤ q + B * val (ys.drop (n + 1)) := fun p q h => by omega
    by_cases h1 : x < y
    · simp only [decide_eq_true h1, cond_true]
      have : val xs < val ys := by
        rw [hva, hvb, he]
        have := Nat.mul_le_mul_left (B ^ n) (key x y h1)
        rw [Nat.mul_succ] at this
        omega
      simp [cmpN, this]
    · simp only [decide_eq_false h1, cond_false]
      by_cases h2 : x > y
      · simp only [decide_eq_true h2, cond_true]
        have : val ys < val xs := by
          rw [hva, hvb, he]
          have := Nat.mul_le_mul_left (B ^ n) (key y x h2)
          rw [Nat.mul_succ] at this
          omega
        have h3 : ¬ val xs < val ys := by omega
        simp [cmpN, this, h3]
      · simp only [decide_eq_false h2, cond_false]
        have hxy : x = y := by omega
        rw [z_sub64 (by omega) (by omega)]
        exact cmp_loop C K H hv hw hl ha hb hlen n fuel (by omega) (by omega) (by rw [hda, hdb, val, val, hxy, he])
theorem cmp_ok (K : Nat) (d : Nat) (H : Heap) {v w : SV} {a b : Nat} (hv : IsNat H v a) (hw : IsNat H w b) (hK : (digs a).length < K) (hb : (digs a).length < 1000000000) :
    runQ wk tab slow K (d + 1) 60 [v, w] H = some (.int .i64 (cmpN a b), H) := by
  obtain ⟨x, rfl, hx, _⟩ := hv
  obtain ⟨y, rfl, hy, _⟩ := hw
  show f60 slow K (runQ wk tab slow K d) (.agg [x]) (.agg [y]) H = _
  simp only [f60, z_bbox, z_lfld, z_lld0, blen hx, blen hy, n_neq, n_lss, z_cond]
  by_cases h : (digs a).length = (digs b).length
  · have hne : ¬ ((digs a).length ≠ (digs b).length) := fun hh => hh h
    simp only [decide_eq_false hne, cond_false]
    rw [z_sub64 (by omega) (by omega)]
    have := cmp_loop (runQ wk tab slow K d) K H hx hy h (digs_small a) (digs_small b) hb (digs a).length K (Nat.le_refl _) hK (by rw [List.drop_length, h, List.drop_length])
    rw [val_digs, val_digs] at this
    exact this
  · simp only [decide_eq_true h, cond_true]
    by_cases h2 : (digs a).length < (digs b).length
    · simp only [decide_eq_true h2, cond_true]
      simp [cmpN, val_cmp_len h2]
    · simp only [decide_eq_false h2, cond_false]
      have h3 := val_cmp_len (a := b) (b := a) (by omega)
      have h4 : ¬ a < b := by omega
      simp [cmpN, h3, h4]
/-- Divided by one digit: the quotient's digits, and what is left. -/
def shortL (b : Nat) : List Nat → List Nat × Nat
  | [] => ([], 0)
  | d :: ds => (((shortL b ds).2 * B + d) / b :: (shortL b ds).1, ((shortL b ds).2 * B + d) % b)
theorem shortL_spec {b : Nat} (hb : 0 < b) (hB : b < B) : ∀ {ds : List Nat}, Small ds → (shortL b ds).1.length = ds.length ∧ (shortL b ds).2 < b ∧ val (shortL b ds).1 * b + (shortL b ds).2 = val ds ∧ Small (shortL b ds).1
  | [], _ => ⟨rfl, hb, by simp [shortL, val], fun d hd => by cases hd⟩
  | d :: ds, h => by
    obtain ⟨h1, h2, h3, h4⟩ := shortL_spec hb hB (ds := ds) fun x hx => h x (by simp [hx])
    have hd := h d (by simp)
    have hlt : ((shortL b ds).2 * B + d) / b < B := by
      rw [Nat.div_lt_iff_lt_mul hb]
      have : (shortL b ds).2 * B + B ≤ b * B := by rw [← Nat.succ_mul]; exact Nat.mul_le_mul_right _ h2
      rw [Nat.mul_comm B b]
      omega
    refine ⟨by simp [shortL, h1], Nat.mod_lt _ hb, ?_, ?_⟩
    · simp only [shortL, val]
      have := Nat.div_add_mod ((shortL b ds).2 * B + d) b
      rw [← h3, Nat.add_mul, Nat.mul_add, Nat.mul_assoc B]
      rw [Nat.mul_comm b] at this
      have e : (shortL b ds).2 * B = B * (shortL b ds).2 := Nat.mul_comm _ _
      omega
    · intro x hx
      rcases List.mem_cons.1 hx with rfl | hx
      · exact hlt
      · exact h4 x hx
theorem shortL_val {b : Nat} (hb : 0 < b) (hB : b < B) {ds : List Nat} (h : Small ds) : val (shortL b ds).1 = val ds / b ∧ (shortL b ds).2 = val ds % b := by
  obtain ⟨_, h2, h3, _⟩ := shortL_spec hb hB h
  have := (Nat.div_mod_unique hb (a := val ds) (c := (shortL b ds).2) (d := val (shortL b ds).1)).2 ⟨by rw [← h3, Nat.mul_comm b]; omega, h2⟩
  exact ⟨this.1.symm, this.2.symm⟩
theorem short_loop (C : CallC) (K : Nat) (lo : Nat) {v : SV} {r : Nat} {pre post : List SV} {b : Nat} (hb : 0 < b) (hB : b < B) {ds : List Nat} (hs : Small ds) (hlen : ds.length < 1000000000) : ∀ (n fuel : Nat) (H : Heap), n ≤ ds.length → n < fuel → Wr lo H v r pre (limbs (ds.take n ++ (shortL b (ds.drop n)).1)) post →
    ∃ H', slow.loop4 (f62_l1 slow K C) fuel v (u32 b) (u64 (shortL b (ds.drop n)).2) (.int .i64 ((n : Int) - 1)) H = some (u32 (shortL b ds).2, H') ∧ Wr lo H' v r pre (limbs (shortL b ds).1) post ∧ Fr lo H H' ∧ H'.size = H.size ∧ ∀ r', r' ≠ r → H'.get r' = H.get r'
  | 0, fuel, H, hn, hf, hw => by
    obtain ⟨fuel, rfl⟩ : ∃ m, fuel = m + 1 := ⟨fuel - 1, by omega⟩
    rw [z_loop4]
    have h0 : ¬ (((0 : Nat) : Int) - 1 ≥ 0) := by omega
    have hlt := (shortL_spec hb hB hs).2.1
    have hB' : b < 4294967296 := hB
    simp only [List.drop_zero, List.take_zero, List.nil_append] at hw ⊢
    refine ⟨H, ?_, hw, Fr.refl _ _, rfl, fun _ _ => rfl⟩
    simp only [f62_l1, z_geq, decide_eq_false h0, z_cond, cond_false, n_conv32, z_rest_int]
    rw [Nat.mod_eq_of_lt (by omega)]
  | n + 1, fuel, H, hn, hf, hw => by
    obtain ⟨fuel, rfl⟩ : ∃ m, fuel = m + 1 := ⟨fuel - 1, by omega⟩
    obtain ⟨x, hx⟩ : ∃ x, ds[n]? = some x := ⟨_, List.getElem?_eq_getElem (by omega)⟩
    have hdx : ds.drop n = x :: ds.drop (n + 1) := List.drop_eq_getElem?_toList_append (l := ds) (i := n) ▸ by rw [hx]; rfl
    have hs2 : Small (ds.drop (n + 1)) := fun d hd => hs d (List.mem_of_mem_drop hd)
    obtain ⟨s1, s2, s3, s4⟩ := shortL_spec hb hB hs2
    have hxs := hs x (List.mem_of_getElem? hx)
    have hxB : x < 4294967296 := hxs
    have hbB : b < 4294967296 := hB
    have h0 : (((n + 1 : Nat) : Int) - 1 ≥ 0) := by omega
    have e : (((n + 1 : Nat) : Int) - 1) = (n : Int) := by omega
    have hcur : (ds.take (n + 1) ++ (shortL b (ds.drop (n + 1))).1)[n]? = some x := by
      rw [List.getElem?_append_left (by rw [List.length_take_of_le hn]; omega), List.getElem?_take_of_lt (by omega), hx]
    let y := ((shortL b (ds.drop (n + 1))).2 * B + x) / b
    have hylt : y < 4294967296 := by
      have := (shortL_spec hb hB (ds := ds.drop n) fun d hd => hs d (List.mem_of_mem_drop hd)).2.2.2 y (by rw [hdx]; simp [shortL, y])
      exact this
    obtain ⟨H1, st, hw1, hf1, hsz1, hro1⟩ := hw.store (i := n) (by simp; omega) (x := u32 y) rfl .i64
    have hset : (limbs (ds.take (n + 1) ++ (shortL b (ds.drop (n + 1))).1)).set n (u32 y) = limbs (ds.take n ++ (shortL b (ds.drop n)).1) := by
      rw [hdx, List.take_add_one, hx]
      have hl : (limbs (ds.take n)).length = n := by rw [limbs_len, List.length_take_of_le (by omega)]
      simp only [limbs, shortL, Option.toList_some, List.map_append, List.map_cons, List.map_nil, List.append_assoc]
      rw [List.set_append_right _ _ (by rw [show (List.map u32 (ds.take n)).length = n from hl]; omega), show (List.map u32 (ds.take n)).length = n from hl, Nat.sub_self]
      rfl
    rw [hset] at hw1
    obtain ⟨H2, h1, h2, h3, h4, h5⟩ := short_loop C K lo hb hB hs hlen n fuel H1 (by omega) (by omega) hw1
    refine ⟨H2, ?_, h2, hf1.trans h3, h4.trans hsz1, fun r' hr' => (h5 r' hr').trans (hro1 r' hr')⟩
    rw [z_loop4]
    simp only [f62_l1, z_geq, decide_eq_true h0, z_cond, cond_true]
    rw [e, show (SV.int .u64 32) = SV.int .u64 ((32 : Nat) : Int) from rfl]
    have hr2 : (shortL b (ds.drop (n + 1))).2 * 2 ^ 32 + x < 18446744073709551616 := by
      have : (shortL b (ds.drop (n + 1))).2 + 1 ≤ 4294967296 := by omega
      have := Nat.mul_le_mul_right 4294967296 this
      omega
    have hr3 : (shortL b (ds.drop (n + 1))).2 * B + x < 18446744073709551616 := hr2
    have hr1 : (shortL b (ds.drop (n + 1))).2 * 2 ^ 32 < 18446744073709551616 := Nat.lt_of_le_of_lt (Nat.le_add_right _ _) hr2
    rw [n_shl64 _ .u64 (shortL b (ds.drop (n + 1))).2 32 (by decide) hr1, hw.arr.load (limbs_get hcur), n_conv64 _ .u32 x (by omega), n_or64 _ hr1 (by omega)]
    have hor : (shortL b (ds.drop (n + 1))).2 * 2 ^ 32 ||| x = (shortL b (ds.drop (n + 1))).2 * B + x := or_add _ _ hxB
    rw [hor, n_conv64 _ .u32 b (by omega), n_quo64 _ _ (by omega) hr3, n_conv32, n_conv64 _ .u32 b (by omega), n_rem _ .u64 _ (by omega)]
    rw [show ((shortL b (ds.drop (n + 1))).2 * B + x) / b % 4294967296 = y from Nat.mod_eq_of_lt hylt, st, z_sub64 (by omega) (by omega)]
    have e3 : ((shortL b (ds.drop (n + 1))).2 * B + x) % b = (shortL b (ds.drop n)).2 := by rw [hdx]; rfl
    rw [e3]
    exact h1
/-- short: divides in place. -/
theorem short_ok (K : Nat) (d : Nat) (H : Heap) {lo : Nat} {v : SV} {r : Nat} {pre post : List SV} {b : Nat} (hb : 0 < b) (hB : b < B) {ds : List Nat} (hs : Small ds) (hK : ds.length < K) (hlen : ds.length < 1000000000) (hw : Wr lo H v r pre (limbs ds) post) :
    ∃ H', runQ wk tab slow K (d + 1) 62 [v, u32 b] H = some (u32 (val ds % b), H') ∧ Wr lo H' v r pre (limbs (shortL b ds).1) post ∧ Fr lo H H' ∧ H'.size = H.size ∧ ∀ r', r' ≠ r → H'.get r' = H.get r' := by
  show ∃ H', f62 slow K (runQ wk tab slow K d) v (u32 b) H = _ ∧ _
  simp only [f62, blen hw.arr]
  rw [z_sub64 (by omega) (by omega), ← (shortL_val hb hB hs).2]
  have := short_loop (runQ wk tab slow K d) K lo (v := v) (r := r) (pre := pre) (post := post) hb hB hs hlen ds.length K H (Nat.le_refl _) hK (by rw [List.take_length, List.drop_length]; simpa [shortL] using hw)
  rw [List.drop_length] at this
  exact this
end Go.Sh.Of

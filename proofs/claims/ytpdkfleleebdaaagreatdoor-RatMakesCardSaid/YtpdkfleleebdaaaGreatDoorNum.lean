/- Contracts of the package nat: cut, Of, Bits, fits, Cmp, short. Contracts of the package nat: Text. Contracts of the package nat: Add, Sub, Mul. Contracts of the package nat: Sub, Mul. Contracts of the package zint. Knuth's division: plain words. Contracts of the package nat: up, down. Contracts of the package nat: away; windows of a row. Contracts of the package nat: long, Div. Contracts of the package nat: long, Div. Contracts: nat.long, nat.Div; zint.Sub, Quo, Exact. Contracts of the package zint: Sub, Quo, Exact. Decimal texts as numbers: plain words. Contracts of the package nat: Parse. -/
import Derived.Test.YtpdkfleleebdaaaGreatDoorWk
import Derived.Test.YtpdkfleleebdaaaGreatDoorSh30
set_option linter.unusedVariables false
set_option linter.unusedSimpArgs false
namespace Go.Sh.Of
open Go
theorem limbs_len (ds : List Nat) : (limbs ds).length = ds.length := by simp
theorem limbs_get {ds : List Nat} {i d : Nat} (h : ds[i]? = some d) : (limbs ds)[i]? = some (u32 d) := by simp [h]
theorem blen {H : Heap} {v : SV} {ds : List Nat} (hv : Arr H v (limbs ds)) (k : K1) : slow.len v k = k (i64 ds.length) := by rw [hv.len]; simp
def CutOk (H : Heap) (v : SV) (ds : List Nat) (sl : SV) : Prop :=
 Arr H sl (limbs (digs (val ds))) /\ sl.flat = true /\ Root sl /\ ∀ lo r pre post, Wr lo H v r pre (limbs ds) post -> ∃ post', Wr lo H sl r pre (limbs (digs (val ds))) post'
theorem cut_end {H : Heap} {v : SV} {ds : List Nat} (hv : Arr H v (limbs ds)) (hs : Small ds) (hr : Root v) {n : Nat} (hn : n <= ds.length) (hval : val (ds.take n) = val ds) (hlast : ∀ d, (ds.take n).getLast? = some d -> d ≠ 0) :
  ∃ sl, (∀ k, slow.slice011 1 v (i64 n) (i64 n) H k = k sl) /\ CutOk H v ds sl := by
 obtain ⟨sl, h1, h2, h3, h4, h5⟩ := hv.slice011 (n := n) (by rw [limbs_len]; exact hn) (.inr hr) .i64 .i64
 have e : digs (val ds) = ds.take n := by
  rw [<- hval]
  exact digs_val (fun d hd => hs d (List.mem_of_mem_take hd)) hlast
 have e2 : (limbs ds).take n = limbs (digs (val ds)) := by rw [e]; exact List.map_take.symm
 exact ⟨sl, h1, by rw [<- e2]; exact h2, h4, h3 hr, fun lo r pre post hw => ⟨_, by rw [<- e2]; exact h5 lo r pre post hw⟩⟩
theorem cut_loop (C : CallC) (K : Nat) (H : Heap) {v : SV} {ds : List Nat} (hv : Arr H v (limbs ds)) (hs : Small ds) (hr : Root v) (hb : ds.length < 1000000000) : ∀ (n fuel : Nat), n <= ds.length -> n < fuel -> val (ds.take n) = val ds ->
  ∃ sl, slow.loop3 (f62_l1 slow K C) fuel v (.box [.slice nilSl]) (i64 n) H = some (.agg [sl], H) /\ CutOk H v ds sl
 | 0, fuel, hn, hf, hval => by
  obtain ⟨fuel, rfl⟩ : ∃ m, fuel = m + 1 := ⟨fuel - 1, by omega⟩
  obtain ⟨sl, h1, h2⟩ := cut_end hv hs hr hn hval (fun d hd => by simp at hd)
  refine ⟨sl, ?_, h2⟩
  rw [z_loop3]
  have h00 : ¬ (((0 : Nat) : Int) > 0) := by omega
  simp only [f62_l1, z_gtr, decide_eq_false h00, z_guard, cond_false, f62_j2, z_cond]
  simp only [h1, z_build1 _ _ h2.2.1, z_bst1, z_resc1]
 | n + 1, fuel, hn, hf, hval => by
  obtain ⟨fuel, rfl⟩ : ∃ m, fuel = m + 1 := ⟨fuel - 1, by omega⟩
  obtain ⟨d, hd⟩ : ∃ d, ds[n]? = some d := ⟨_, List.getElem?_eq_getElem (by omega)⟩
  have hpos : (((n + 1 : Nat) : Int)) > 0 := by omega
  have htk : ds.take (n + 1) = ds.take n ++ [d] := by rw [List.take_add_one, hd]; rfl
  rw [z_loop3]
  simp only [f62_l1, z_gtr, decide_eq_true hpos, z_guard, cond_true]
  rw [z_sub64 (by omega) (by omega)]
  have e : (((n + 1 : Nat) : Int) - 1) = (n : Int) := by omega
  rw [e]
  simp only [hv.load (limbs_get hd), z_eql]
  by_cases h0 : d = 0
  ·subst h0
   have hb0 : (((0 : Nat) : Int) == 0) = true := rfl
   simp only [hb0, f62_j2, z_cond, cond_true]
   rw [z_sub64 (by omega) (by omega), e]
   exact cut_loop C K H hv hs hr hb n fuel (by omega) (by omega) (by rw [<- hval, htk, val_append]; simp [val])
  ·have hb0 : ((d : Int) == 0) = false := by simp [h0]
   obtain ⟨sl, h1, h2⟩ := cut_end hv hs hr hn hval (fun d' hd' => by rw [htk] at hd'; simp at hd'; omega)
   refine ⟨sl, ?_, h2⟩
   simp only [hb0, f62_j2, z_cond, cond_false]
   simp only [h1, z_build1 _ _ h2.2.1, z_bst1, z_resc1]
theorem cut_ok (K : Nat) (d : Nat) (H : Heap) {v : SV} {ds : List Nat} (hv : Arr H v (limbs ds)) (hs : Small ds) (hr : Root v) (hK : ds.length < K) (hb : ds.length < 1000000000) :
  ∃ sl, runQ wk tab slow K (d + 1) 62 [v] H = some (.agg [sl], H) /\ CutOk H v ds sl := by
 show ∃ sl, f62 slow K (runQ wk tab slow K d) v H = _ /\ _
 simp only [f62, blen hv]
 exact cut_loop _ K H hv hs hr hb ds.length K (Nat.le_refl _) hK (by rw [List.take_length])
theorem CutOk.isNat {H : Heap} {v : SV} {ds : List Nat} {sl : SV} (h : CutOk H v ds sl) : IsNat H (.agg [sl]) (val ds) := ⟨sl, rfl, h.1, h.2.1⟩
theorem of_ok (K : Nat) (hK : 2 < K) (d : Nat) (H : Heap) {n : Nat} (hn : n < 18446744073709551616) :
  ∃ r H', runQ wk tab slow K (d + 2) 33 [u64 n] H = some (r, H') /\ Frame H H' /\ IsNat H' r n := by
 show ∃ r H', f33 slow K (runQ wk tab slow K (d + 1)) (u64 n) H = _ /\ _
 obtain ⟨v, H1, h1, ho, hf, _, _⟩ := z_lay2 (H := H) (lo := H.size) (Nat.le_refl _) (.int .u32 0) (.int .u32 0) (x := u32 (n % 4294967296)) (y := u32 (n / 2 ^ 32 % 4294967296)) rfl rfl
 have hs : Small [n % 4294967296, n / 2 ^ 32 % 4294967296] := by
  intro x hx
  rcases List.mem_cons.1 hx with rfl | hx
  ·exact Nat.mod_lt _ (by decide)
  ·rcases List.mem_cons.1 hx with rfl | hx
   ·exact Nat.mod_lt _ (by decide)
   ·cases hx
 obtain ⟨sl, h2, h3⟩ := cut_ok K d H1 (ds := [n % 4294967296, n / 2 ^ 32 % 4294967296]) ho.arr hs ho.root (by simpa using hK) (by simp)
 have hv : val [n % 4294967296, n / 2 ^ 32 % 4294967296] = n := by
  simp only [val, B]; omega
 refine ⟨.agg [sl], H1, ?_, hf, by have := h3.isNat; rwa [hv] at this⟩
 simp only [f33, n_conv32]
 rw [show (SV.int .u64 32) = SV.int .u64 ((32 : Nat) : Int) from rfl, n_shr _ .u64 .u64 n 32 (by decide)]
 simp only [n_conv32, h1, h2, z_call, z_bst1, z_resc1]
abbrev len8 : List UInt8 := [0, 1, 2, 2, 3, 3, 3, 3, 4, 4, 4, 4, 4, 4, 4, 4, 5, 5, 5, 5, 5, 5, 5, 5, 5, 5, 5, 5, 5, 5, 5, 5, 6, 6, 6, 6, 6, 6, 6, 6, 6, 6, 6, 6, 6, 6, 6, 6, 6, 6, 6, 6, 6, 6, 6, 6, 6, 6, 6, 6, 6, 6, 6, 6, 7, 7, 7, 7, 7, 7, 7, 7, 7, 7, 7, 7, 7, 7, 7, 7, 7, 7, 7, 7, 7, 7, 7, 7, 7, 7, 7, 7, 7, 7, 7, 7, 7, 7, 7, 7, 7, 7, 7, 7, 7, 7, 7, 7, 7, 7, 7, 7, 7, 7, 7, 7, 7, 7, 7, 7, 7, 7, 7, 7, 7, 7, 7, 7, 8, 8, 8, 8, 8, 8, 8, 8, 8, 8, 8, 8, 8, 8, 8, 8, 8, 8, 8, 8, 8, 8, 8, 8, 8, 8, 8, 8, 8, 8, 8, 8, 8, 8, 8, 8, 8, 8, 8, 8, 8, 8, 8, 8, 8, 8, 8, 8, 8, 8, 8, 8, 8, 8, 8, 8, 8, 8, 8, 8, 8, 8, 8, 8, 8, 8, 8, 8, 8, 8, 8, 8, 8, 8, 8, 8, 8, 8, 8, 8, 8, 8, 8, 8, 8, 8, 8, 8, 8, 8, 8, 8, 8, 8, 8, 8, 8, 8, 8, 8, 8, 8, 8, 8, 8, 8, 8, 8, 8, 8, 8, 8, 8, 8, 8, 8, 8, 8, 8, 8, 8, 8, 8, 8, 8, 8, 8, 8]
set_option maxRecDepth 100000 in
theorem len8_all : ∀ n : Fin 256, len8[n.1]? = some (UInt8.ofNat (bl n.1)) := by decide +kernel
theorem bl_small {n k : Nat} (h : n < 2 ^ k) : bl n <= k := bl_le.2 h
theorem len8_get {n : Nat} (h : n < 256) : len8[n]? = some (UInt8.ofNat (bl n)) := len8_all ⟨n, h⟩
set_option maxRecDepth 100000 in
theorem len32_ok (K : Nat) (d : Nat) (H : Heap) {n : Nat} (hn : n < 4294967296) : runQ wk tab slow K (d + 1) 60 [u32 n] H = some (i64 (bl n), H) := by
 show f60 slow K (runQ wk tab slow K d) (u32 n) H = _
 have e2 : ∀ (m s : Nat), m < 256 -> s < 100 -> f60_j2 slow K (runQ wk tab slow K d) (u32 m) (i64 s) H = some (i64 (s + bl m), H) := fun m s hm hs => by
  have hbl : bl m <= 8 := bl_small (by simpa using hm)
  have hst : ∀ k, slow.stridx (.str len8) (u8 (m % 256)) k = k (u8 (bl m)) := fun k => by
   have e : (UInt8.ofNat (bl m)).toNat = bl m := by simp; omega
   rw [z_stridx k (len8_get (Nat.mod_lt m (by decide))) .u8, Nat.mod_eq_of_lt hm, e]
  unfold f60_j2
  rw [n_conv8]
  rw [hst, n_convi _ _ _ (by omega), n_addi _ (by omega), z_rest_int]
 have e1 : ∀ (m s : Nat), m < 65536 -> s < 50 -> f60_j1 slow K (runQ wk tab slow K d) (u32 m) (i64 s) H = some (i64 (s + bl m), H) := fun m s hm hs => by
  unfold f60_j1
  rw [show (SV.int .u32 256) = SV.int .u32 ((256 : Nat) : Int) from rfl, n_geq, z_cond]
  by_cases h : m >= 256
  ·rw [decide_eq_true h, cond_true, show (SV.int .u64 8) = SV.int .u64 ((8 : Nat) : Int) from rfl, n_shr _ .u32 .u64 m 8 (by decide), show (SV.int .i64 8) = i64 8 from rfl, n_addi _ (by omega), e2 _ _ (by omega) (by omega)]
   rw [bl_shift (show 2 ^ 8 <= m from h), Nat.add_assoc]
  ·rw [decide_eq_false h, cond_false, e2 _ _ (by omega) (by omega)]
 unfold f60
 rw [show (SV.int .u32 65536) = SV.int .u32 ((65536 : Nat) : Int) from rfl, n_geq, z_cond]
 by_cases h : n >= 65536
 ·rw [decide_eq_true h, cond_true, show (SV.int .u64 16) = SV.int .u64 ((16 : Nat) : Int) from rfl, n_shr _ .u32 .u64 n 16 (by decide), show (SV.int .i64 16) = i64 16 from rfl, e1 _ _ (by omega) (by omega)]
  rw [bl_shift (show 2 ^ 16 <= n from h)]
 ·rw [decide_eq_false h, cond_false, show (SV.int .i64 0) = i64 0 from rfl, e1 _ _ (by omega) (by omega), Nat.zero_add]
theorem bits_ok (K : Nat) (d : Nat) (H : Heap) {v : SV} {n : Nat} (hv : IsNat H v n) (hb : (digs n).length < 10000000) : runQ wk tab slow K (d + 2) 29 [v] H = some (i64 (bl n), H) := by
 obtain ⟨sl, rfl, ha, _⟩ := hv
 show f29 slow K (runQ wk tab slow K (d + 1)) (.agg [sl]) H = _
 by_cases h0 : n = 0
 ·subst h0
  rw [digs_zero] at ha
  simp only [f29, z_bbox, z_lfld, z_lld0, blen ha, z_eql, z_cond]
  rfl
 ·obtain ⟨x, h1, h2, h3, h4⟩ := bl_digs h0
  have hb32 : bl x <= 32 := bl_small h3
  have hlen : 0 < (digs n).length := by
   cases hd : digs n with
   | nil => rw [hd] at h1; cases h1
   | cons _ _ => simp
  have hx : (digs n)[(digs n).length - 1]? = some x := by rw [<- List.getLast?_eq_getElem?]; exact h1
  have hne : (((digs n).length : Int) == 0) = false := beq_eq_false_iff_ne.2 (by omega)
  simp only [f29, z_bbox, z_lfld, z_lld0, blen ha, z_eql, hne, z_cond, cond_false]
  rw [show (SV.int .i64 1) = i64 1 from rfl, n_subi _ (by omega) (by omega), show (SV.int .i64 32) = i64 32 from rfl, n_muli _ (by omega), n_subi _ (by omega) (by omega)]
  rw [ha.load (limbs_get hx), len32_ok K d H h3, z_call, n_addi _ (by omega), z_rest_int, h4]
theorem fits_ok (K : Nat) (d : Nat) (H : Heap) {v : SV} {n : Nat} (hv : IsNat H v n) (hb : (digs n).length < 10000000) :
  ∃ r, runQ wk tab slow K (d + 3) 68 [v] H = some (.tuple [r, .int .i64 (if n < 2 ^ 4096 then 0 else 3)], H) /\ IsNat H r (if n < 2 ^ 4096 then n else 0) := by
 have hbits := bits_ok K d H hv hb
 obtain ⟨sl, rfl, ha, hf⟩ := hv
 show ∃ r, f68 slow K (runQ wk tab slow K (d + 2)) (.agg [sl]) H = _ /\ _
 simp only [f68, z_bbox, z_lload1, hbits, z_call]
 rw [show (SV.int .i64 4096) = i64 4096 from rfl]
 simp only [n_gtr, z_cond]
 by_cases h : n < 2 ^ 4096
 ·have hn : ¬ bl n > 4096 := Nat.not_lt.2 (bl_le.2 h)
  simp only [decide_eq_false hn, cond_false, z_bst1, z_resc1, if_pos h]
  exact ⟨_, rfl, sl, rfl, ha, hf⟩
 ·have hn : bl n > 4096 := Nat.lt_of_not_le fun hle => h ((bl_le (k := 4096)).1 hle)
  simp only [decide_eq_true hn, cond_true, z_build0, z_bst1, z_resc1, if_neg h]
  exact ⟨_, rfl, _, rfl, by rw [digs_zero]; exact Arr.nil H, rfl⟩
def cmpN (a b : Nat) : Int := if a < b then -1 else if a > b then 1 else 0
theorem val_cmp_len {a b : Nat} (h : (digs a).length < (digs b).length) : a < b := by
 have h1 := val_lt (digs_small a)
 rw [val_digs] at h1
 have hb0 : b ≠ 0 := fun e => by subst e; rw [digs_zero] at h; simp at h
 apply Nat.lt_of_not_le
 intro hle
 have : b < B ^ (digs a).length := Nat.lt_of_le_of_lt hle h1
 have := digs_len_le this
 omega
theorem cmp_loop (C : CallC) (K : Nat) (H : Heap) {v w : SV} {xs ys : List Nat} (hv : Arr H v (limbs xs)) (hw : Arr H w (limbs ys)) (hl : xs.length = ys.length) (ha : Small xs) (hb : Small ys) (hlen : xs.length < 1000000000) : ∀ (n fuel : Nat), n <= xs.length -> n < fuel -> val (xs.drop n) = val (ys.drop n) ->
  slow.loop3 (f39_l3 slow K C) fuel (.box [v]) (.box [w]) (.int .i64 ((n : Int) - 1)) H = some (.int .i64 (cmpN (val xs) (val ys)), H)
 | 0, fuel, hn, hf, he => by
  obtain ⟨fuel, rfl⟩ : ∃ m, fuel = m + 1 := ⟨fuel - 1, by omega⟩
  rw [z_loop3]
  have h0 : ¬ (((0 : Nat) : Int) - 1 >= 0) := by omega
  simp only [f39_l3, z_geq, decide_eq_false h0, z_cond, cond_false]
  simp only [List.drop_zero] at he
  simp [cmpN, he]
 | n + 1, fuel, hn, hf, he => by
  obtain ⟨fuel, rfl⟩ : ∃ m, fuel = m + 1 := ⟨fuel - 1, by omega⟩
  obtain ⟨x, hx⟩ : ∃ x, xs[n]? = some x := ⟨_, List.getElem?_eq_getElem (by omega)⟩
  obtain ⟨y, hy⟩ : ∃ y, ys[n]? = some y := ⟨_, List.getElem?_eq_getElem (by omega)⟩
  have hda : xs.drop n = x :: xs.drop (n + 1) := List.drop_eq_getElem?_toList_append (l := xs) (i := n) ▸ by rw [hx]; rfl
  have hdb : ys.drop n = y :: ys.drop (n + 1) := List.drop_eq_getElem?_toList_append (l := ys) (i := n) ▸ by rw [hy]; rfl
  rw [z_loop3]
  have h0 : (((n + 1 : Nat) : Int) - 1 >= 0) := by omega
  have e : (((n + 1 : Nat) : Int) - 1) = (n : Int) := by omega
  simp only [f39_l3, z_geq, decide_eq_true h0, z_cond, cond_true, z_lfld, z_lld0]
  rw [e]
  simp only [hv.load (limbs_get hx), hw.load (limbs_get hy), n_lss, n_gtr, z_cond]
  have hxs := ha x (List.mem_of_getElem? hx)
  have hys := hb y (List.mem_of_getElem? hy)
  have hva : val xs = val (xs.take n) + B ^ n * (x + B * val (xs.drop (n + 1))) := by
   conv => lhs; rw [<- List.take_append_drop n xs, val_append, hda]
   rw [List.length_take_of_le (by omega)]; rfl
  have hvb : val ys = val (ys.take n) + B ^ n * (y + B * val (ys.drop (n + 1))) := by
   conv => lhs; rw [<- List.take_append_drop n ys, val_append, hdb]
   rw [List.length_take_of_le (by omega)]; rfl
  have hta : val (xs.take n) < B ^ n := by
   have := val_lt (ds := xs.take n) fun d hd => ha d (List.mem_of_mem_take hd)
   rwa [List.length_take_of_le (by omega)] at this
  have htb : val (ys.take n) < B ^ n := by
   have := val_lt (ds := ys.take n) fun d hd => hb d (List.mem_of_mem_take hd)
   rwa [List.length_take_of_le (by omega)] at this
  have key : ∀ p q : Nat, p < q -> p + B * val (ys.drop (n + 1)) + 1 <= q + B * val (ys.drop (n + 1)) := fun p q h => by omega
  by_cases h1 : x < y
  ·simp only [decide_eq_true h1, cond_true]
   have : val xs < val ys := by
    rw [hva, hvb, he]
    have := Nat.mul_le_mul_left (B ^ n) (key x y h1)
    rw [Nat.mul_succ] at this
    omega
   simp [cmpN, this]
  ·simp only [decide_eq_false h1, cond_false]
   by_cases h2 : x > y
   ·simp only [decide_eq_true h2, cond_true]
    have : val ys < val xs := by
     rw [hva, hvb, he]
     have := Nat.mul_le_mul_left (B ^ n) (key y x h2)
     rw [Nat.mul_succ] at this
     omega
    have h3 : ¬ val xs < val ys := by omega
    simp [cmpN, this, h3]
   ·simp only [decide_eq_false h2, cond_false]
    have hxy : x = y := by omega
    rw [z_sub64 (by omega) (by omega)]
    exact cmp_loop C K H hv hw hl ha hb hlen n fuel (by omega) (by omega) (by rw [hda, hdb, val, val, hxy, he])
theorem cmp_ok (K : Nat) (d : Nat) (H : Heap) {v w : SV} {a b : Nat} (hv : IsNat H v a) (hw : IsNat H w b) (hK : (digs a).length < K) (hb : (digs a).length < 1000000000) :
  runQ wk tab slow K (d + 1) 39 [v, w] H = some (.int .i64 (cmpN a b), H) := by
 obtain ⟨x, rfl, hx, _⟩ := hv
 obtain ⟨y, rfl, hy, _⟩ := hw
 show f39 slow K (runQ wk tab slow K d) (.agg [x]) (.agg [y]) H = _
 simp only [f39, z_bbox, z_lfld, z_lld0, blen hx, blen hy, n_neq, n_lss, z_cond]
 by_cases h : (digs a).length = (digs b).length
 ·have hne : ¬ ((digs a).length ≠ (digs b).length) := fun hh => hh h
  simp only [decide_eq_false hne, cond_false]
  rw [z_sub64 (by omega) (by omega)]
  have := cmp_loop (runQ wk tab slow K d) K H hx hy h (digs_small a) (digs_small b) hb (digs a).length K (Nat.le_refl _) hK (by rw [List.drop_length, h, List.drop_length])
  rw [val_digs, val_digs] at this
  exact this
 ·simp only [decide_eq_true h, cond_true]
  by_cases h2 : (digs a).length < (digs b).length
  ·simp only [decide_eq_true h2, cond_true]
   simp [cmpN, val_cmp_len h2]
  ·simp only [decide_eq_false h2, cond_false]
   have h3 := val_cmp_len (a := b) (b := a) (by omega)
   have h4 : ¬ a < b := by omega
   simp [cmpN, h3, h4]
def shortL (b : Nat) : List Nat -> List Nat × Nat
 | [] => ([], 0)
 | d :: ds => (((shortL b ds).2 * B + d) / b :: (shortL b ds).1, ((shortL b ds).2 * B + d) % b)
theorem shortL_spec {b : Nat} (hb : 0 < b) (hB : b < B) : ∀ {ds : List Nat}, Small ds -> (shortL b ds).1.length = ds.length /\ (shortL b ds).2 < b /\ val (shortL b ds).1 * b + (shortL b ds).2 = val ds /\ Small (shortL b ds).1
 | [], _ => ⟨rfl, hb, by simp [shortL, val], fun d hd => by cases hd⟩
 | d :: ds, h => by
  obtain ⟨h1, h2, h3, h4⟩ := shortL_spec hb hB (ds := ds) fun x hx => h x (by simp [hx])
  have hd := h d (by simp)
  have hlt : ((shortL b ds).2 * B + d) / b < B := by
   rw [Nat.div_lt_iff_lt_mul hb]
   have : (shortL b ds).2 * B + B <= b * B := by rw [<- Nat.succ_mul]; exact Nat.mul_le_mul_right _ h2
   rw [Nat.mul_comm B b]
   omega
  refine ⟨by simp [shortL, h1], Nat.mod_lt _ hb, ?_, ?_⟩
  ·simp only [shortL, val]
   have := Nat.div_add_mod ((shortL b ds).2 * B + d) b
   rw [<- h3, Nat.add_mul, Nat.mul_add, Nat.mul_assoc B]
   rw [Nat.mul_comm b] at this
   have e : (shortL b ds).2 * B = B * (shortL b ds).2 := Nat.mul_comm _ _
   omega
  ·intro x hx
   rcases List.mem_cons.1 hx with rfl | hx
   ·exact hlt
   ·exact h4 x hx
theorem shortL_val {b : Nat} (hb : 0 < b) (hB : b < B) {ds : List Nat} (h : Small ds) : val (shortL b ds).1 = val ds / b /\ (shortL b ds).2 = val ds % b := by
 obtain ⟨_, h2, h3, _⟩ := shortL_spec hb hB h
 have := (Nat.div_mod_unique hb (a := val ds) (c := (shortL b ds).2) (d := val (shortL b ds).1)).2 ⟨by rw [<- h3, Nat.mul_comm b]; omega, h2⟩
 exact ⟨this.1.symm, this.2.symm⟩
theorem short_loop (C : CallC) (K : Nat) (lo : Nat) {v : SV} {r : Nat} {pre post : List SV} {b : Nat} (hb : 0 < b) (hB : b < B) {ds : List Nat} (hs : Small ds) (hlen : ds.length < 1000000000) : ∀ (n fuel : Nat) (H : Heap), n <= ds.length -> n < fuel -> Wr lo H v r pre (limbs (ds.take n ++ (shortL b (ds.drop n)).1)) post ->
  ∃ H', slow.loop4 (f61_l1 slow K C) fuel v (u32 b) (u64 (shortL b (ds.drop n)).2) (.int .i64 ((n : Int) - 1)) H = some (u32 (shortL b ds).2, H') /\ Wr lo H' v r pre (limbs (shortL b ds).1) post /\ Fr lo H H' /\ H'.size = H.size /\ ∀ r', r' ≠ r -> H'.get r' = H.get r'
 | 0, fuel, H, hn, hf, hw => by
  obtain ⟨fuel, rfl⟩ : ∃ m, fuel = m + 1 := ⟨fuel - 1, by omega⟩
  rw [z_loop4]
  have h0 : ¬ (((0 : Nat) : Int) - 1 >= 0) := by omega
  have hlt := (shortL_spec hb hB hs).2.1
  have hB' : b < 4294967296 := hB
  simp only [List.drop_zero, List.take_zero, List.nil_append] at hw ⊢
  refine ⟨H, ?_, hw, Fr.refl _ _, rfl, fun _ _ => rfl⟩
  simp only [f61_l1, z_geq, decide_eq_false h0, z_cond, cond_false, n_conv32, z_rest_int]
  rw [Nat.mod_eq_of_lt (by omega)]
 | n + 1, fuel, H, hn, hf, hw => by
  obtain ⟨fuel, rfl⟩ : ∃ m, fuel = m + 1 := ⟨fuel - 1, by omega⟩
  obtain ⟨x, hx⟩ : ∃ x, ds[n]? = some x := ⟨_, List.getElem?_eq_getElem (by omega)⟩
  have hdx : ds.drop n = x :: ds.drop (n + 1) := List.drop_eq_getElem?_toList_append (l := ds) (i := n) ▸ by rw [hx]; rfl
  have hs2 : Small (ds.drop (n + 1)) := fun d hd => hs d (List.mem_of_mem_drop hd)
  obtain ⟨s1, s2, s3, s4⟩ := shortL_spec hb hB hs2
  have hxs := hs x (List.mem_of_getElem? hx)
  have hxB : x < 4294967296 := hxs
  have hbB : b < 4294967296 := hB
  have h0 : (((n + 1 : Nat) : Int) - 1 >= 0) := by omega
  have e : (((n + 1 : Nat) : Int) - 1) = (n : Int) := by omega
  have hcur : (ds.take (n + 1) ++ (shortL b (ds.drop (n + 1))).1)[n]? = some x := by
   rw [List.getElem?_append_left (by rw [List.length_take_of_le hn]; omega), List.getElem?_take_of_lt (by omega), hx]
  let y := ((shortL b (ds.drop (n + 1))).2 * B + x) / b
  have hylt : y < 4294967296 := by
   have := (shortL_spec hb hB (ds := ds.drop n) fun d hd => hs d (List.mem_of_mem_drop hd)).2.2.2 y (by rw [hdx]; simp [shortL, y])
   exact this
  obtain ⟨H1, st, hw1, hf1, hsz1, hro1⟩ := hw.store (i := n) (by simp; omega) (x := u32 y) rfl .i64
  have hset : (limbs (ds.take (n + 1) ++ (shortL b (ds.drop (n + 1))).1)).set n (u32 y) = limbs (ds.take n ++ (shortL b (ds.drop n)).1) := by
   rw [hdx, List.take_add_one, hx]
   have hl : (limbs (ds.take n)).length = n := by rw [limbs_len, List.length_take_of_le (by omega)]
   simp only [limbs, shortL, Option.toList_some, List.map_append, List.map_cons, List.map_nil, List.append_assoc]
   rw [List.set_append_right _ _ (by rw [show (List.map u32 (ds.take n)).length = n from hl]; omega), show (List.map u32 (ds.take n)).length = n from hl, Nat.sub_self]
   rfl
  rw [hset] at hw1
  obtain ⟨H2, h1, h2, h3, h4, h5⟩ := short_loop C K lo hb hB hs hlen n fuel H1 (by omega) (by omega) hw1
  refine ⟨H2, ?_, h2, hf1.trans h3, h4.trans hsz1, fun r' hr' => (h5 r' hr').trans (hro1 r' hr')⟩
  rw [z_loop4]
  simp only [f61_l1, z_geq, decide_eq_true h0, z_cond, cond_true]
  rw [e, show (SV.int .u64 32) = SV.int .u64 ((32 : Nat) : Int) from rfl]
  have hr2 : (shortL b (ds.drop (n + 1))).2 * 2 ^ 32 + x < 18446744073709551616 := by
   have : (shortL b (ds.drop (n + 1))).2 + 1 <= 4294967296 := by omega
   have := Nat.mul_le_mul_right 4294967296 this
   omega
  have hr3 : (shortL b (ds.drop (n + 1))).2 * B + x < 18446744073709551616 := hr2
  have hr1 : (shortL b (ds.drop (n + 1))).2 * 2 ^ 32 < 18446744073709551616 := Nat.lt_of_le_of_lt (Nat.le_add_right _ _) hr2
  rw [n_shl64 _ .u64 (shortL b (ds.drop (n + 1))).2 32 (by decide) hr1, hw.arr.load (limbs_get hcur), n_conv64 _ .u32 x (by omega), n_or64 _ hr1 (by omega)]
  have hor : (shortL b (ds.drop (n + 1))).2 * 2 ^ 32 ||| x = (shortL b (ds.drop (n + 1))).2 * B + x := or_add _ _ hxB
  rw [hor, n_conv64 _ .u32 b (by omega), n_quo64 _ _ (by omega) hr3, n_conv32, n_conv64 _ .u32 b (by omega), n_rem _ .u64 _ (by omega)]
  rw [show ((shortL b (ds.drop (n + 1))).2 * B + x) / b % 4294967296 = y from Nat.mod_eq_of_lt hylt, st, z_sub64 (by omega) (by omega)]
  have e3 : ((shortL b (ds.drop (n + 1))).2 * B + x) % b = (shortL b (ds.drop n)).2 := by rw [hdx]; rfl
  rw [e3]
  exact h1
theorem short_ok (K : Nat) (d : Nat) (H : Heap) {lo : Nat} {v : SV} {r : Nat} {pre post : List SV} {b : Nat} (hb : 0 < b) (hB : b < B) {ds : List Nat} (hs : Small ds) (hK : ds.length < K) (hlen : ds.length < 1000000000) (hw : Wr lo H v r pre (limbs ds) post) :
  ∃ H', runQ wk tab slow K (d + 1) 61 [v, u32 b] H = some (u32 (val ds % b), H') /\ Wr lo H' v r pre (limbs (shortL b ds).1) post /\ Fr lo H H' /\ H'.size = H.size /\ ∀ r', r' ≠ r -> H'.get r' = H.get r' := by
 show ∃ H', f61 slow K (runQ wk tab slow K d) v (u32 b) H = _ /\ _
 simp only [f61, blen hw.arr]
 rw [z_sub64 (by omega) (by omega), <- (shortL_val hb hB hs).2]
 have := short_loop (runQ wk tab slow K d) K lo (v := v) (r := r) (pre := pre) (post := post) hb hB hs hlen ds.length K H (Nat.le_refl _) hK (by rw [List.take_length, List.drop_length]; simpa [shortL] using hw)
 rw [List.drop_length] at this
 exact this
end Go.Sh.Of
namespace Go.Sh.Of
open Go
def decLE (n : Nat) : List Nat := if h : n = 0 then [] else n % 10 :: decLE (n / 10)
termination_by n
decreasing_by exact Nat.div_lt_self (Nat.pos_of_ne_zero h) (by decide)
theorem decLE_zero : decLE 0 = [] := by rw [decLE]; rfl
theorem decLE_pos {n : Nat} (h : n ≠ 0) : decLE n = n % 10 :: decLE (n / 10) := by rw [decLE, dif_neg h]
def chr (d : Nat) : UInt8 := UInt8.ofNat (48 + d)
def dec (n : Nat) : List UInt8 := if n = 0 then [48] else (decLE n).reverse.map chr
theorem decLE_lt {n : Nat} : ∀ d ∈ decLE n, d < 10 := by
 induction n using Nat.strongRecOn with
 | ind n ih =>
  by_cases h : n = 0
  ·subst h; rw [decLE_zero]; intro d hd; cases hd
  ·rw [decLE_pos h]
   intro d hd
   rcases List.mem_cons.1 hd with rfl | hd
   ·exact Nat.mod_lt _ (by decide)
   ·exact ih (n / 10) (Nat.div_lt_self (Nat.pos_of_ne_zero h) (by decide)) d hd
theorem decLE_len {n k : Nat} (h : n < 10 ^ k) : (decLE n).length <= k := by
  induction k generalizing n with
  | zero => have : n = 0 := by simpa using h
            subst this; rw [decLE_zero]; simp
  | succ k ih =>
    by_cases h0 : n = 0
    · subst h0; rw [decLE_zero]; simp
    · rw [decLE_pos h0, List.length_cons]
      have : n / 10 < 10 ^ k := by rw [Nat.div_lt_iff_lt_mul (by decide), <- Nat.pow_succ]; exact h
      exact Nat.succ_le_succ (ih this)
theorem decLE_lt_pow (n : Nat) : n < 10 ^ (decLE n).length := by
 induction n using Nat.strongRecOn with
 | ind n ih =>
  by_cases h : n = 0
  ·subst h; rw [decLE_zero]; simp
  ·rw [decLE_pos h, List.length_cons, Nat.pow_succ]
   have := ih (n / 10) (Nat.div_lt_self (Nat.pos_of_ne_zero h) (by decide))
   omega
theorem decLE_mono {a b : Nat} (h : a <= b) : (decLE a).length <= (decLE b).length := decLE_len (Nat.lt_of_le_of_lt h (decLE_lt_pow b))
theorem two_ten : ∀ k : Nat, 2 ^ k <= 10 ^ k
 | k => Nat.pow_le_pow_left (by decide) k
abbrev chrs (l : List Nat) : List SV := l.map fun d => u8 (48 + d)
theorem inRow_uniq {v : SV} {r r' : Nat} (h : inRow v r) (h' : inRow v r') : r = r' := by
 obtain ⟨s, o, rfl, e⟩ := h
 obtain ⟨s', o', e1, e2⟩ := h'
 cases e1
 rw [e] at e2
 cases e2
 rfl
theorem Own.of_rows {lo : Nat} {H H' : Heap} {v : SV} {cs : List SV} (h : Own lo H v cs) (hr : ∀ r, inRow v r -> H'.get r = H.get r) : Own lo H' v cs := by
 obtain ⟨base, rfl, h⟩ := h
 refine ⟨base, rfl, ?_⟩
 rcases h with h | ⟨r, ver, rfl, h2, h3⟩
 ·exact .inl h
 ·exact .inr ⟨r, ver, rfl, h2, by rw [hr r ⟨_, 0, rfl, rfl⟩]; exact h3⟩
theorem not_inRow_nil (r : Nat) : ¬ inRow (.slice nilSl) r := fun ⟨s, o, e, h⟩ => by cases e; cases h
theorem text_in (C : CallC) (K : Nat) (lo : Nat) {sl : SV} {r : Nat} {post : List SV} {m : Nat} (hroot : Root sl) (hfl : sl.flat = true) (k14 : SV -> SV -> Heap -> Rs) (N : Nat) (hN : N < 1000000000) : ∀ (j i x : Nat) (fuel : Nat) (H : Heap) (out : SV) (pre : List Nat), i + j = 9 -> j < fuel -> x < 10 ^ j -> lo <= H.size -> Wr lo H sl r [] (limbs (digs m)) post -> Own lo H out (chrs pre) -> ¬ inRow out r -> pre.length + (decLE (x + 10 ^ j * m)).length <= N ->
  ∃ out' H' pre', slow.loop4 (f31_l4 slow K C k14) fuel sl out (u32 x) (i64 i) H = k14 sl out' H' /\ Fr lo H H' /\ Wr lo H' sl r [] (limbs (digs m)) post /\ Own lo H' out' (chrs pre') /\ ¬ inRow out' r /\ pre' ++ decLE m = pre ++ decLE (x + 10 ^ j * m)
 | 0, i, x, fuel, H, out, pre, hij, hf, hx, hlo, hw, ho, hnr, hlen => by
  obtain ⟨fuel, rfl⟩ : ∃ m, fuel = m + 1 := ⟨fuel - 1, by omega⟩
  have hx0 : x = 0 := by simpa using hx
  subst hx0
  have h9 : ¬ (i : Int) < 9 := by omega
  refine ⟨out, H, pre, ?_, Fr.refl _ _, hw, ho, hnr, by simp⟩
  rw [z_loop4]
  simp only [f31_l4, z_lss, decide_eq_false h9, z_guard, cond_false, f31_j5, z_cond]
 | j + 1, i, x, fuel, H, out, pre, hij, hf, hx, hlo, hw, ho, hnr, hlen => by
  obtain ⟨fuel, rfl⟩ : ∃ m, fuel = m + 1 := ⟨fuel - 1, by omega⟩
  have h9 : (i : Int) < 9 := by omega
  have hlt : x < 4294967296 := by
   have : 10 ^ (j + 1) <= 10 ^ 9 := Nat.pow_le_pow_right (by decide) (by omega)
   omega
  by_cases h0 : m = 0 /\ x = 0
  ·obtain ⟨rfl, rfl⟩ := h0
   refine ⟨out, H, pre, ?_, Fr.refl _ _, hw, ho, hnr, by simp⟩
   rw [z_loop4]
   have hl0 : Arr H sl (limbs (digs 0)) := hw.arr
   rw [digs_zero] at hl0
   have e1 : ¬ (((([] : List Nat).length : Nat) : Int) > 0) := by simp
   have e2 : ¬ (((0 : Nat) : Int) > 0) := by omega
   simp only [f31_l4, z_lss, decide_eq_true h9, z_guard, cond_true, blen hl0, z_gtr, decide_eq_false e1, decide_eq_false e2, cond_false, f31_j5, z_cond]
  ·have hne : x + 10 ^ (j + 1) * m ≠ 0 := by
    intro e
    apply h0
    have h1 : x = 0 := by omega
    have h2 : 10 ^ (j + 1) * m = 0 := by omega
    exact ⟨(Nat.mul_eq_zero.1 h2).resolve_left (by have := Nat.pow_pos (n := j + 1) (show 0 < 10 by decide); omega), h1⟩
   have e10 : 10 ^ (j + 1) * m = 10 * (10 ^ j * m) := by rw [Nat.pow_succ, Nat.mul_comm (10 ^ j) 10, Nat.mul_assoc]
   have em : (x + 10 ^ (j + 1) * m) % 10 = x % 10 := by rw [e10]; omega
   have ed : (x + 10 ^ (j + 1) * m) / 10 = x / 10 + 10 ^ j * m := by rw [e10]; omega
   have edec : decLE (x + 10 ^ (j + 1) * m) = x % 10 :: decLE (x / 10 + 10 ^ j * m) := by rw [decLE_pos hne, em, ed]
   have h10 : (48 + x % 10) % 4294967296 % 256 = 48 + x % 10 := by omega
   obtain ⟨u, H1, hu, hou, hfu, hru, hsz⟩ := z_lay1 (H := H) (lo := H.size) (Nat.le_refl _) (.int .u8 0) (x := u8 (48 + x % 10)) rfl
   rw [edec, List.length_cons] at hlen
   obtain ⟨o', H2, ha, ho2, hf2, hrow, hin, _⟩ := (ho.fr hfu).append (Nat.le_trans hlo hfu.size) hou.arr (by_ := 1) (roomy_small (by simp; omega))
   have hrlt := hw.lt
   have hnr' : ¬ inRow o' r := fun hi => by
    have := inRow_uniq (hin (by simp)) hi
    have := hfu.size
    omega
   have hw2 : Wr lo H2 sl r [] (limbs (digs m)) post := by
    have hw1 := hw.fr hfu
    exact hw1.row (hrow r hnr (hw1.lt))
   have e3 : chrs pre ++ [u8 (48 + x % 10)] = chrs (pre ++ [x % 10]) := by simp
   rw [e3] at ho2
   obtain ⟨out', H', pre', h1, h2, h3, h4, h5, h6⟩ := text_in C K lo hroot hfl k14 N hN j (i + 1) (x / 10) fuel H2 o' (pre ++ [x % 10]) (by omega) (by omega) (by rw [Nat.pow_succ] at hx; omega) (Nat.le_trans hlo (Nat.le_trans hfu.size hf2.size)) hw2 ho2 hnr' (by simp; omega)
   refine ⟨out', H', pre', ?_, ((hfu.mono hlo).trans hf2).trans h2, h3, h4, h5, by rw [h6, edec]; simp⟩
   rw [z_loop4]
   have step : f31_j5 slow K C k14 (slow.loop4 (f31_l4 slow K C k14) fuel) sl out (u32 x) (i64 i) (.bool true) H = k14 sl out' H' := by
    simp only [f31_j5, z_cond, cond_true]
    rw [show (SV.int .u32 10) = u32 10 from rfl, n_rem _ .u32 x (by decide), show (SV.int .u32 48) = u32 48 from rfl, n_add32, n_conv8, h10, hu, ha, n_quo32 _ _ (by decide) hlt]
    rw [show (SV.int .i64 1) = i64 1 from rfl, n_addi _ (by omega)]
    exact h1
   simp only [f31_l4, z_lss, decide_eq_true h9, z_guard, cond_true, blen hw.arr, z_gtr]
   by_cases hl : ((digs m).length : Int) > 0
   ·simp only [decide_eq_true hl, cond_true]; exact step
   ·have hm0 : m = 0 := digs_nil.1 (List.eq_nil_of_length_eq_zero (by omega))
    have hx0 : ((x : Nat) : Int) > 0 := by
     have : x ≠ 0 := fun e => h0 ⟨hm0, e⟩
     omega
    simp only [decide_eq_false hl, cond_false, decide_eq_true hx0]; exact step
def half (l : List Nat) (i : Nat) : List Nat := (l.reverse.take i) ++ ((l.drop i).take (l.length - 2 * i)) ++ (l.reverse.drop (l.length - i))
theorem half_get {l : List Nat} {i j : Nat} (hi : 2 * i <= l.length) (hj : j < l.length) : (half l i)[j]? = if j < i \/ l.length - i <= j then l.reverse[j]? else l[j]? := by
 unfold half
 rw [List.append_assoc, List.getElem?_append]
 have hl1 : (l.reverse.take i).length = i := by simp; omega
 rw [hl1]
 by_cases h1 : j < i
 ·rw [if_pos h1, if_pos (.inl h1), List.getElem?_take_of_lt h1]
 ·rw [if_neg h1, List.getElem?_append]
  have hl2 : ((l.drop i).take (l.length - 2 * i)).length = l.length - 2 * i := by simp; omega
  rw [hl2]
  by_cases h2 : j - i < l.length - 2 * i
  ·rw [if_pos h2, if_neg (by omega), List.getElem?_take_of_lt h2, List.getElem?_drop, show i + (j - i) = j by omega]
  ·rw [if_neg h2, if_pos (.inr (by omega)), List.getElem?_drop]
   congr 1; omega
theorem half_len {l : List Nat} {i : Nat} (hi : 2 * i <= l.length) : (half l i).length = l.length := by
 unfold half; simp; omega
theorem half_zero (l : List Nat) : half l 0 = l := by simp [half]
theorem half_end {l : List Nat} {i : Nat} (hi : 2 * i <= l.length) (h : l.length <= 2 * i + 1) : half l i = l.reverse := by
 apply List.ext_getElem?
 intro j
 by_cases hj : j < l.length
 ·rw [half_get hi hj]
  split
  ·rfl
  ·rw [List.getElem?_reverse hj]
   congr 1; omega
 ·rw [List.getElem?_eq_none (by rw [half_len hi]; omega), List.getElem?_eq_none (by simp; omega)]
theorem half_step {l : List Nat} {i : Nat} (h : 2 * i + 1 < l.length) {x y : Nat} (hx : l[i]? = some x) (hy : l[l.length - 1 - i]? = some y) : ((half l i).set i y).set (l.length - 1 - i) x = half l (i + 1) := by
 apply List.ext_getElem?
 intro j
 by_cases hj : j < l.length
 ·rw [half_get (by omega) hj, List.getElem?_set, List.getElem?_set]
  simp only [List.length_set, half_len (show 2 * i <= l.length by omega)]
  by_cases h1 : l.length - 1 - i = j
  ·rw [if_pos h1, if_pos (show l.length - 1 - i < l.length by omega), if_pos (.inr (by omega)), List.getElem?_reverse hj, <- hx]
   congr 1; omega
  ·rw [if_neg h1]
   by_cases h2 : i = j
   ·rw [if_pos h2, if_pos (by omega), if_pos (.inl (by omega)), List.getElem?_reverse hj, <- hy]
    congr 1; omega
   ·rw [if_neg h2, half_get (by omega) hj]
    by_cases h3 : j < i \/ l.length - i <= j
    ·rw [if_pos h3, if_pos (by omega)]
    ·rw [if_neg h3, if_neg (by omega)]
 ·rw [List.getElem?_eq_none (by simp [half_len (show 2 * i <= l.length by omega)]; omega), List.getElem?_eq_none (by rw [half_len (by omega)]; omega)]
theorem chrs_get {l : List Nat} {i d : Nat} (h : l[i]? = some d) : (chrs l)[i]? = some (u8 (48 + d)) := by simp [h]
theorem bytes_chrs : ∀ (l : List Nat), (∀ d ∈ l, d < 10) -> bytesOf (chrs l) = some (l.map chr)
 | [], _ => rfl
 | d :: l, h => by
  have ih := bytes_chrs l fun x hx => h x (by simp [hx])
  simp only [chrs, List.map_cons, bytesOf, Int.toNat_natCast]
  rw [show bytesOf (List.map (fun d => u8 (48 + d)) l) = some (l.map chr) from ih]
  rfl
theorem text_rev (C : CallC) (K : Nat) (lo : Nat) {v : SV} {l : List Nat} (h10 : ∀ d ∈ l, d < 10) (hlen : l.length < 1000000000) : ∀ (n i fuel : Nat) (H : Heap), n + 2 * i + 1 = l.length \/ (n = 0 /\ l.length = 2 * i) -> n < fuel -> Own lo H v (chrs (half l i)) ->
  ∃ H', slow.loop3 (f31_l11 slow K C) fuel v (i64 i) (.int .i64 ((l.length : Int) - 1 - i)) H = some (.str (l.reverse.map chr), H') /\ Fr lo H H' := by
 intro n
 induction n using Nat.strongRecOn with
 | ind n ih =>
  intro i fuel H hn hf ho
  obtain ⟨fuel, rfl⟩ : ∃ m, fuel = m + 1 := ⟨fuel - 1, by omega⟩
  by_cases hlt : 2 * i + 1 < l.length
  ·have hn' : n + 2 * i + 1 = l.length := by omega
   have hc : ((i : Nat) : Int) < (l.length : Int) - 1 - (i : Int) := by omega
   have ej : ((l.length : Int) - 1 - (i : Int)) = ((l.length - 1 - i : Nat) : Int) := by omega
   obtain ⟨x, hx⟩ : ∃ x, l[i]? = some x := ⟨_, List.getElem?_eq_getElem (by omega)⟩
   obtain ⟨y, hy⟩ : ∃ y, l[l.length - 1 - i]? = some y := ⟨_, List.getElem?_eq_getElem (by omega)⟩
   have hgi : (half l i)[i]? = some x := by rw [half_get (by omega) (by omega), if_neg (by omega), hx]
   have hgj : (half l i)[l.length - 1 - i]? = some y := by rw [half_get (by omega) (by omega), if_neg (by omega), hy]
   have hhl := half_len (show 2 * i <= l.length by omega)
   obtain ⟨H1, s1, o1, f1, _, _⟩ := ho.store (i := i) (by simp [hhl]; omega) (x := u8 (48 + y)) rfl .i64
   obtain ⟨H2, s2, o2, f2, _, _⟩ := o1.store (i := l.length - 1 - i) (by simp [hhl]; omega) (x := u8 (48 + x)) rfl .i64
   have hset : ((chrs (half l i)).set i (u8 (48 + y))).set (l.length - 1 - i) (u8 (48 + x)) = chrs (half l (i + 1)) := by
    rw [<- half_step hlt hx hy]; simp [chrs, List.map_set]
   rw [hset] at o2
   obtain ⟨H3, h3, f3⟩ := ih (n - 2) (by omega) (i + 1) fuel H2 (by omega) (by omega) o2
   refine ⟨H3, ?_, (f1.trans f2).trans f3⟩
   rw [z_loop3]
   simp only [f31_l11, z_lss, decide_eq_true hc, z_cond, cond_true]
   rw [ej, ho.arr.load (chrs_get hgj), ho.arr.load (chrs_get hgi), s1, s2, z_add64 (by omega) (by omega), z_sub64 (by omega) (by omega)]
   have e1 : ((i : Int) + 1) = ((i + 1 : Nat) : Int) := by omega
   have e2 : (((l.length - 1 - i : Nat) : Int) - 1) = ((l.length : Int) - 1 - ((i + 1 : Nat) : Int)) := by omega
   rw [e1, e2]
   exact h3
  ·have hc : ¬ ((i : Nat) : Int) < (l.length : Int) - 1 - (i : Int) := by omega
   rw [half_end (by omega) (by omega)] at ho
   obtain ⟨s, rfl, e1, e2⟩ := ho.arr.elems
   refine ⟨H, ?_, Fr.refl _ _⟩
   rw [z_loop3]
   simp only [f31_l11, z_lss, decide_eq_false hc, z_cond, cond_false]
   show ((opR .str [.slice s] H).bind _) = _
   simp only [opR, e2, Option.bind_some, bytes_chrs l.reverse (fun d hd => h10 d (List.mem_reverse.1 hd)), Option.map_some]
   rfl
theorem text_out (K : Nat) (d : Nat) (lo : Nat) (N : Nat) (hN : N < 1000000000) (hK : N < K) (hK9 : 9 < K) {n : Nat} (hdec : (decLE n).length <= N) : ∀ (m : Nat) (fuel : Nat) (H : Heap) (sl out : SV) (r : Nat) (post : List SV) (pre : List Nat), (decLE m).length < fuel -> (digs m).length <= N -> lo <= H.size -> Wr lo H sl r [] (limbs (digs m)) post -> Root sl -> sl.flat = true -> Own lo H out (chrs pre) -> ¬ inRow out r -> pre ++ decLE m = decLE n ->
  ∃ H', slow.loop2 (f31_l2 slow K (runQ wk tab slow K (d + 1))) fuel sl out H = some (.str ((decLE n).reverse.map chr), H') /\ Fr lo H H' := by
 intro m
 induction m using Nat.strongRecOn with
 | ind m ih =>
  intro fuel H sl out r post pre hf hmN hlo hw hroot hfl ho hnr hpre
  obtain ⟨fuel, rfl⟩ : ∃ m, fuel = m + 1 := ⟨fuel - 1, by omega⟩
  rw [z_loop2]
  by_cases h0 : m = 0
  ·subst h0
   rw [decLE_zero, List.append_nil] at hpre
   subst hpre
   have hl0 : Arr H sl (limbs (digs 0)) := hw.arr
   rw [digs_zero] at hl0
   have e1 : ¬ (((([] : List Nat).length : Nat) : Int) > 0) := by simp
   simp only [f31_l2, blen hl0, z_gtr, decide_eq_false e1, z_cond, cond_false]
   have hol : ∀ k, slow.len out k = k (i64 (decLE n).length) := fun k => by rw [ho.arr.len]; simp
   rw [hol, show (SV.int .i64 1) = i64 1 from rfl, z_sub64 (by omega) (by omega)]
   have hr := text_rev (runQ wk tab slow K (d + 1)) K lo (v := out) (l := decLE n) decLE_lt (by omega) ((decLE n).length - 1) 0 K H (by omega) (by omega) (by rw [half_zero]; exact ho)
   have e : ((decLE n).length : Int) - 1 - ((0 : Nat) : Int) = ((decLE n).length : Int) - 1 := by omega
   rw [e] at hr
   exact hr
  ·have hpos : ((digs m).length : Int) > 0 := by
    have : digs m ≠ [] := fun e => h0 (digs_nil.1 e)
    have := List.length_pos_iff.2 this
    omega
   have hs := digs_small m
   have hb : (1000000000 : Nat) < B := by decide
   obtain ⟨H1, h1, hw1, f1, sz1, hr1⟩ := short_ok K d H (b := 1000000000) (by decide) hb hs (by omega) (by omega) hw
   obtain ⟨s1, s2, s3, s4⟩ := shortL_spec (b := 1000000000) (by decide) hb hs
   obtain ⟨sl', h2, hcut⟩ := cut_ok K d H1 (ds := (shortL 1000000000 (digs m)).1) hw1.arr s4 hroot (by omega) (by omega)
   have hv := (shortL_val (b := 1000000000) (by decide) hb hs).1
   rw [val_digs] at hv
   obtain ⟨c1, c2, c3, c4⟩ := hcut
   obtain ⟨post', hw2⟩ := c4 lo r [] post hw1
   rw [hv] at c1 hw2
   have ho1 : Own lo H1 out (chrs pre) := Own.of_rows ho fun r' hi => hr1 r' fun e => hnr (e ▸ hi)
   have hlt : val (digs m) % 1000000000 < 10 ^ 9 := by rw [val_digs]; exact Nat.mod_lt _ (by decide)
   have e10 : m % 1000000000 + 10 ^ 9 * (m / 1000000000) = m := Nat.mod_add_div m 1000000000
   obtain ⟨out', H2, pre', h3, f2, hw3, ho3, hnr3, hp3⟩ := text_in (runQ wk tab slow K (d + 1)) K lo c3 c2 (slow.loop2 (f31_l2 slow K (runQ wk tab slow K (d + 1))) fuel) N hN 9 0 (val (digs m) % 1000000000) K H1 out pre rfl hK9 hlt (by omega) hw2 ho1 hnr (by
    rw [val_digs, e10, <- List.length_append, hpre]; exact hdec)
   rw [val_digs, e10] at hp3
   have hmlt : m / 1000000000 < m := Nat.div_lt_self (Nat.pos_of_ne_zero h0) (by decide)
   have hdl : (digs (m / 1000000000)).length <= (digs m).length := by
    have := digs_len_le (n := m / 1000000000) (k := (digs m).length) (Nat.lt_of_le_of_lt (Nat.div_le_self _ _) (by have := val_lt hs; rwa [val_digs] at this))
    exact this
   have hq : (decLE (m / 1000000000)).length < fuel := by
    have h1 := decLE_mono (show m / 1000000000 <= m / 10 by omega)
    rw [decLE_pos h0, List.length_cons] at hf
    omega
   obtain ⟨H3, h4, f3⟩ := ih (m / 1000000000) hmlt fuel H2 sl' out' r post' pre' hq (by omega) (Nat.le_trans hlo (Nat.le_trans f1.size f2.size)) hw3 c3 c2 ho3 hnr3 (by rw [hp3, hpre])
   refine ⟨H3, ?_, (f1.trans f2).trans f3⟩
   simp only [f31_l2, blen hw.arr, z_gtr, decide_eq_true hpos, z_cond, cond_true]
   rw [show (SV.int .u32 1000000000) = u32 1000000000 from rfl, h1, z_call, h2, z_call, z_field0, show (SV.int .i64 0) = i64 0 from rfl, h3]
   exact h4
theorem text_ok (K : Nat) (d : Nat) (H : Heap) {v : SV} {n : Nat} (hv : IsNat H v n) (hK : 9 < K) (hdK : (decLE n).length < K) (hgK : (digs n).length < K) (hd : (decLE n).length < 1000000000) (hg : (digs n).length < 1000000000) :
  ∃ H', runQ wk tab slow K (d + 2) 31 [v] H = some (.str (dec n), H') /\ Frame H H' := by
 obtain ⟨sl, rfl, ha, _⟩ := hv
 show ∃ H', f31 slow K (runQ wk tab slow K (d + 1)) (.agg [sl]) H = _ /\ _
 by_cases h0 : n = 0
 ·subst h0
  rw [digs_zero] at ha
  refine ⟨H, ?_, Fr.refl _ _⟩
  simp only [f31, z_bbox, z_lfld, z_lld0, blen ha, z_eql, z_cond]
  rfl
 ·have hne : digs n ≠ [] := fun e => h0 (digs_nil.1 e)
  have hpos : (((digs n).length : Int) == 0) = false := beq_eq_false_iff_ne.2 (by have := List.length_pos_iff.2 hne; omega)
  obtain ⟨v', H1, h1, ho, hf, _, hin, _⟩ := (Own.nil H.size H).append (Nat.le_refl _) ha (by_ := 4) (roomy_small (by simp; omega))
  rw [List.nil_append] at ho
  obtain ⟨r, hw⟩ := ho.wr (by simpa using hne)
  let N := max (decLE n).length (digs n).length
  obtain ⟨H2, h2, f2⟩ := text_out K d H.size N (by omega) (by omega) hK (n := n) (by omega) n K H1 v' (.slice nilSl) r [] [] hdK (by omega) hf.size hw ho.root ho.arr.flat (Own.nil _ _) (not_inRow_nil r) (by simp)
  refine ⟨H2, ?_, hf.trans f2⟩
  simp only [f31, z_bbox, z_lfld, z_lld0, blen ha, z_eql, hpos, z_cond, cond_false, h1]
  rw [h2]
  simp [dec, h0]
end Go.Sh.Of
namespace Go.Sh.Of
open Go
section
variable (k : K1)
theorem n_xor32 {a b : Nat} (ha : a < 4294967296) (hb : b < 4294967296) : slow.xor (u32 a) (u32 b) k = k (u32 (a ^^^ b)) := by
 rw [<- qXor_eq]
 show nK .u32 (.ofNat (Nat.xor (Nat.mod a (Nat.pow 2 32)) (Nat.mod b (Nat.pow 2 32)))) k = _
 have e : Nat.xor (Nat.mod a (Nat.pow 2 32)) (Nat.mod b (Nat.pow 2 32)) = a ^^^ b := by
  show (a % 2 ^ 32) ^^^ (b % 2 ^ 32) = a ^^^ b
  rw [Nat.mod_eq_of_lt ha, Nat.mod_eq_of_lt hb]
 have hlt : (a ^^^ b) < 4294967296 := Nat.xor_lt_two_pow (n := 32) ha hb
 rw [nK_eq, e, wrapB, Int.ofNat_eq_natCast, wrap_u32, Nat.mod_eq_of_lt hlt]
theorem n_and32 {a b : Nat} (ha : a < 4294967296) (hb : b < 4294967296) : slow.and (u32 a) (u32 b) k = k (u32 (a &&& b)) := by
 rw [<- qAnd_eq]
 show nK .u32 (.ofNat (Nat.land (Nat.mod a (Nat.pow 2 32)) (Nat.mod b (Nat.pow 2 32)))) k = _
 have e : Nat.land (Nat.mod a (Nat.pow 2 32)) (Nat.mod b (Nat.pow 2 32)) = a &&& b := by
  show (a % 2 ^ 32) &&& (b % 2 ^ 32) = a &&& b
  rw [Nat.mod_eq_of_lt ha, Nat.mod_eq_of_lt hb]
 have hlt : (a &&& b) < 4294967296 := Nat.lt_of_le_of_lt Nat.and_le_left ha
 rw [nK_eq, e, wrapB, Int.ofNat_eq_natCast, wrap_u32, Nat.mod_eq_of_lt hlt]
theorem n_or32 {a b : Nat} (ha : a < 4294967296) (hb : b < 4294967296) : slow.or (u32 a) (u32 b) k = k (u32 (a ||| b)) := by
 rw [<- qOr_eq]
 show nK .u32 (.ofNat (Nat.lor (Nat.mod a (Nat.pow 2 32)) (Nat.mod b (Nat.pow 2 32)))) k = _
 have e : Nat.lor (Nat.mod a (Nat.pow 2 32)) (Nat.mod b (Nat.pow 2 32)) = a ||| b := by
  show (a % 2 ^ 32) ||| (b % 2 ^ 32) = a ||| b
  rw [Nat.mod_eq_of_lt ha, Nat.mod_eq_of_lt hb]
 have hlt : (a ||| b) < 4294967296 := Nat.or_lt_two_pow (n := 32) ha hb
 rw [nK_eq, e, wrapB, Int.ofNat_eq_natCast, wrap_u32, Nat.mod_eq_of_lt hlt]
theorem n_not32 {a : Nat} (ha : a < 4294967296) : slow.u_xor (u32 a) k = k (u32 (4294967295 ^^^ a)) := by
 rw [<- n_xor32 k (by decide) ha]
 rfl
end
theorem top_bit {n : Nat} (h : n < 4294967296) : n / 2 ^ 31 = (n.testBit 31).toNat := by
 rw [Nat.testBit_eq_decide_div_mod_eq]
 have : n / 2 ^ 31 < 2 := by omega
 by_cases h1 : n / 2 ^ 31 % 2 = 1
 ·rw [decide_eq_true h1]; show _ = 1; omega
 ·rw [decide_eq_false h1]; show _ = 0; omega
theorem bit31 {n : Nat} (h : n < 4294967296) : n.testBit 31 = decide (2147483648 <= n) := by
 rw [Nat.testBit_eq_decide_div_mod_eq]
 exact decide_eq_decide.2 (by omega)
theorem sub32_ok (K : Nat) (d : Nat) (H : Heap) {x y c : Nat} (hx : x < 4294967296) (hy : y < 4294967296) (hc : c <= 1) :
  runQ wk tab slow K (d + 1) 98 [u32 x, u32 y, u32 c] H = some (.tuple [u32 ((x + 2 * 4294967296 - y - c) % 4294967296), u32 (if x < y + c then 1 else 0)], H) := by
 show f98 slow K (runQ wk tab slow K d) (u32 x) (u32 y) (u32 c) H = _
 unfold f98
 have e1 : ((x + 4294967296 - y) % 4294967296 + 4294967296 - c) % 4294967296 = (x + 2 * 4294967296 - y - c) % 4294967296 := by omega
 rw [n_sub32 _ hx hy, n_sub32 _ (Nat.mod_lt _ (by decide)) (by omega), e1]
 generalize hz : (x + 2 * 4294967296 - y - c) % 4294967296 = z
 have hzlt : z < 4294967296 := by rw [<- hz]; exact Nat.mod_lt _ (by decide)
 have hn : (4294967295 ^^^ x) < 4294967296 := Nat.xor_lt_two_pow (n := 32) (by decide) hx
 have hxy : (x ^^^ y) < 4294967296 := Nat.xor_lt_two_pow (n := 32) hx hy
 have hnxy : (4294967295 ^^^ (x ^^^ y)) < 4294967296 := Nat.xor_lt_two_pow (n := 32) (by decide) hxy
 have ha1 : (4294967295 ^^^ x) &&& y < 4294967296 := Nat.lt_of_le_of_lt Nat.and_le_left hn
 have ha2 : (4294967295 ^^^ (x ^^^ y)) &&& z < 4294967296 := Nat.lt_of_le_of_lt Nat.and_le_left hnxy
 have hor : ((4294967295 ^^^ x) &&& y ||| (4294967295 ^^^ (x ^^^ y)) &&& z) < 4294967296 := Nat.or_lt_two_pow (n := 32) ha1 ha2
 rw [n_not32 _ hx, n_and32 _ hn hy, n_xor32 _ hx hy, n_not32 _ hxy, n_and32 _ hnxy hzlt, n_or32 _ ha1 ha2]
 rw [show (SV.int .u64 31) = SV.int .u64 ((31 : Nat) : Int) from rfl, n_shr _ .u32 .u64 _ 31 (by decide)]
 simp only [z_rest_int]
 congr 4
 rw [top_bit hor, Nat.testBit_or, Nat.testBit_and, Nat.testBit_and, Nat.testBit_xor, Nat.testBit_xor, Nat.testBit_xor, bit31 hx, bit31 hy, bit31 hzlt, show Nat.testBit 4294967295 31 = true by decide]
 congr 1
 by_cases h1 : 2147483648 <= x <;> by_cases h2 : 2147483648 <= y <;> by_cases h3 : 2147483648 <= z <;> by_cases h4 : x < y + c <;> simp [h1, h2, h3, h4] <;> omega
theorem val_set : ∀ {o : List Nat} {i d z : Nat}, o[i]? = some d -> val (o.set i z) + d * B ^ i = val o + z * B ^ i
 | [], i, d, z, h => by simp at h
 | x :: o, 0, d, z, h => by simp at h; subst h; simp [val]; omega
 | x :: o, i + 1, d, z, h => by
  simp only [List.getElem?_cons_succ] at h
  have ih := val_set (z := z) h
  simp only [List.set_cons_succ, val, Nat.pow_succ]
  have e1 : d * (B ^ i * B) = B * (d * B ^ i) := by rw [<- Nat.mul_assoc, Nat.mul_comm]
  have e2 : z * (B ^ i * B) = B * (z * B ^ i) := by rw [<- Nat.mul_assoc, Nat.mul_comm]
  rw [e1, e2, Nat.add_assoc, Nat.add_assoc, <- Nat.mul_add, <- Nat.mul_add, ih]
theorem small_set {o : List Nat} (h : Small o) {i z : Nat} (hz : z < B) : Small (o.set i z) := fun d hd => by
 rcases List.mem_or_eq_of_mem_set hd with hd | rfl
 ·exact h d hd
 ·exact hz
theorem small_zeros (n : Nat) : Small (List.replicate n 0) := fun d hd => by rw [List.eq_of_mem_replicate hd]; decide
theorem z_makeW {H : Heap} {lo : Nat} (hl : lo <= H.size) (by_ : Nat) (z : SV) (n : Nat) (hn : n <= 1099511627776) (hr : roomy n by_ = true) (kl kc : IntKind) :
  ∃ v H', (∀ k, slow.make 1 by_ [z] (.int kl n) (.int kc n) H k = k v H') /\ Wr lo H' v H.size [] (List.replicate n z) [] /\ Frame H H' /\ Root v /\ v.flat = true /\ H'.size = H.size + 1 := by
 refine ⟨.slice ⟨some (H.size, 0), n, none, 0⟩, H.push (newRow 1 (List.replicate n z)), fun k => ?_, ⟨none, 0, 0, by simp, hl, by rw [List.nil_append, List.append_nil]; exact Heap.get_push_self _ _⟩, Fr.push (Nat.le_refl _) _, ⟨_, rfl, .inl rfl⟩, rfl, rfl⟩
 show (opE (.make 1 by_ [z]) [.int kl n, .int kc n] H).bind _ = _
 have hc : 0 <= (n : Int) /\ (n : Int) <= n /\ (n : Int) <= 1099511627776 /\ roomy n by_ = true /\ 0 < 1 := ⟨by omega, by omega, by omega, hr, by omega⟩
 simp only [opE, Int.toNat_natCast, if_pos hc, Option.bind_some, rep_one]
theorem splice_at (pre cs post ys : List SV) (h : ys.length <= cs.length) : splice (pre ++ (cs ++ post)) pre.length ys = some (pre ++ ((ys ++ cs.drop ys.length) ++ post)) := by
 have hle : Nat.ble (pre.length + ys.length) (pre ++ (cs ++ post)).length = true := Nat.ble_eq_true_of_le (by simp; omega)
 simp only [splice, hle, cond_true]
 congr 1
 rw [List.take_left', List.append_assoc]
 ·congr 2
  rw [List.drop_append, List.drop_of_length_le (by omega), Nat.add_sub_cancel_left, List.nil_append, List.drop_append_of_le_length h]
 ·rfl
theorem wr_copy {lo : Nat} {H : Heap} {v w : SV} {r : Nat} {pre cs post ys : List SV} (h : Wr lo H v r pre cs post) (hw : Arr H w ys) (hl : ys.length <= cs.length) :
  ∃ H', (∀ k, slow.copy 1 v w H k = k (i64 ys.length) H') /\ Wr lo H' v r pre (ys ++ cs.drop ys.length) post /\ Fr lo H H' /\ H'.size = H.size /\ ∀ r', r' ≠ r -> H'.get r' = H.get r' := by
 obtain ⟨s, rfl, h2, h3⟩ := hw.elems
 obtain ⟨cap, alt, ver, rfl, h4, h5⟩ := h
 refine ⟨H.set r ⟨2, 1, ver + 1, pre ++ ((ys ++ cs.drop ys.length) ++ post)⟩, fun k => ?_, ⟨cap, alt, ver + 1, by simp [Nat.add_sub_cancel' hl], h4, Heap.get_set_self h5 _⟩, Fr.set h4 _, rfl, fun r' hr' => Heap.get_set_ne _ (Ne.symm hr') _⟩
 show (opE (.copy 1) [.slice ⟨some (r, pre.length), cs.length, cap, alt⟩, .slice s] H).bind _ = _
 have hmin : min s.len cs.length = ys.length := by rw [h2]; exact Nat.min_eq_left hl
 have hs : ({ s with len := ys.length } : Sl) = s := by cases s; simp_all
 have hb2 : Nat.beq 2 2 = true := rfl
 simp only [opE, hmin, hs, h3, Option.bind_some, Heap.write, h5, hb2, cond_true, splice_at pre cs post ys hl, Option.map_some]
theorem limbs_zeros (n : Nat) : List.replicate n (SV.int .u32 0) = limbs (List.replicate n 0) := by simp [limbs]
theorem limbs_set (o : List Nat) (i z : Nat) : (limbs o).set i (u32 z) = limbs (o.set i z) := by simp [limbs, List.map_set]
theorem get_app_mid {α : Type} (xs : List α) (x : α) (ys : List α) {i : Nat} (h : xs.length = i) : (xs ++ x :: ys)[i]? = some x := by subst h; simp
theorem set_app_mid {α : Type} (xs : List α) (x z : α) (ys : List α) {i : Nat} (h : xs.length = i) : (xs ++ x :: ys).set i z = (xs ++ [z]) ++ ys := by subst h; simp
theorem add_loop (K : Nat) (d : Nat) (lo : Nat) {H0 : Heap} {v w : SV} {bs : List Nat} (hw : Arr H0 w (limbs bs)) (hlo : lo = H0.size) (hbs : Small bs) {n : Nat} (hn : n < 100000) (hbn : bs.length <= n) (hK : n < K) (hroot : Root v) {r : Nat} {S : Nat} (hS : S < B ^ n) : ∀ (j i fuel : Nat) (c : Nat) (H : Heap) (res rest : List Nat), i + j = n -> j < fuel -> c <= 1 -> rest.length = j -> Small rest -> Small res -> res.length = i -> Frame H0 H -> Wr lo H v r [] (limbs (res ++ rest)) [] -> val res + B ^ i * (c + val rest + val (bs.drop i)) = S ->
  ∃ rr H', slow.loop6 (f50_l2 slow K (runQ wk tab slow K (d + 3))) fuel (.box [w]) (.box [.slice nilSl]) v (u64 c) (i64 n) (i64 i) H = some (.tuple [rr, .int .i64 (if S < 2 ^ 4096 then 0 else 3)], H') /\ Frame H0 H' /\ IsNat H' rr (if S < 2 ^ 4096 then S else 0)
 | 0, i, fuel, c, H, res, rest, hij, hf, hc, hrl, hrs, hres, hri, hfr, hwr, hv => by
  obtain ⟨fuel, rfl⟩ : ∃ m, fuel = m + 1 := ⟨fuel - 1, by omega⟩
  have hin : i = n := by omega
  subst hin
  have hrest : rest = [] := List.eq_nil_of_length_eq_zero hrl
  subst hrest
  have hdrop : bs.drop i = [] := List.drop_eq_nil_iff.2 hbn
  rw [hdrop] at hv
  rw [List.append_nil] at hwr
  simp only [val, Nat.add_zero] at hv
  have hc0 : c = 0 := by
   cases c with
   | zero => rfl
   | succ c =>
    have : B ^ i * (c + 1) >= B ^ i := Nat.le_mul_of_pos_right _ (by omega)
    omega
  subst hc0
  have hvr : val res = S := by omega
  obtain ⟨sl, h2, h3⟩ := cut_ok K (d + 2) H (ds := res) hwr.arr hres hroot (by omega) (by omega)
  have hnat : IsNat H (.agg [sl]) S := by have := h3.isNat; rwa [hvr] at this
  obtain ⟨rr, h4, h5⟩ := fits_ok K d H hnat (by have := digs_len_le hS; omega)
  rw [z_loop6]
  have hlt : ¬ (i < i) := Nat.lt_irrefl i
  obtain ⟨sl2, rfl, h6, h7⟩ := h5
  refine ⟨_, H, ?_, hfr, sl2, rfl, h6, h7⟩
  simp only [f50_l2, n_lss, decide_eq_false hlt, z_cond, cond_false, h2, z_call, h4, z_ext0, z_ext1, z_bst1, z_resc1, z_rest_int]
 | j + 1, i, fuel, c, H, res, rest, hij, hf, hc, hrl, hrs, hres, hri, hfr, hwr, hv => by
  obtain ⟨fuel, rfl⟩ : ∃ m, fuel = m + 1 := ⟨fuel - 1, by omega⟩
  obtain ⟨x, rest, rfl⟩ : ∃ x l, rest = x :: l := by cases rest with | nil => simp at hrl | cons x l => exact ⟨x, l, rfl⟩
  have hxB : x < 4294967296 := hrs x (by simp)
  have hlt : i < n := by omega
  have hget : (limbs (res ++ x :: rest))[i]? = some (u32 x) := limbs_get (get_app_mid _ _ _ hri)
  have hw' := hw.fr hfr
  obtain ⟨y, hy, hyB, hstep⟩ : ∃ y, val (bs.drop i) = y + B * val (bs.drop (i + 1)) /\ y < 4294967296 /\ 
    f50_l2 slow K (runQ wk tab slow K (d + 3)) (.box [w]) (.box [.slice nilSl]) v (u64 c) (i64 n) (i64 i) H (slow.loop6 (f50_l2 slow K (runQ wk tab slow K (d + 3))) fuel) = f50_j4 slow K (runQ wk tab slow K (d + 3)) (slow.loop6 (f50_l2 slow K (runQ wk tab slow K (d + 3))) fuel) (.box [w]) (.box [.slice nilSl]) v (u64 (c + x + y)) (i64 i) (i64 n) (i64 i) H := by
   by_cases hib : i < bs.length
   ·obtain ⟨y, hy⟩ : ∃ y, bs[i]? = some y := ⟨_, List.getElem?_eq_getElem hib⟩
    have hyB : y < 4294967296 := hbs y (List.mem_of_getElem? hy)
    have hdb : bs.drop i = y :: bs.drop (i + 1) := List.drop_eq_getElem?_toList_append (l := bs) (i := i) ▸ by rw [hy]; rfl
    refine ⟨y, by rw [hdb]; rfl, hyB, ?_⟩
    simp only [f50_l2, n_lss, decide_eq_true hlt, z_cond, cond_true, hwr.arr.load hget]
    rw [n_conv64 _ .u32 x (by omega), n_add64 _ (by omega)]
    simp only [z_lfld, z_lld0, blen hw', n_lss, decide_eq_true hib, z_cond, cond_true, hw'.load (limbs_get hy)]
    rw [n_conv64 _ .u32 y (by omega), n_add64 _ (by omega)]
   ·have hdb : bs.drop i = [] := List.drop_eq_nil_iff.2 (by omega)
    have hdb2 : bs.drop (i + 1) = [] := List.drop_eq_nil_iff.2 (by omega)
    refine ⟨0, by rw [hdb, hdb2]; rfl, by decide, ?_⟩
    simp only [f50_l2, n_lss, decide_eq_true hlt, z_cond, cond_true, hwr.arr.load hget]
    rw [n_conv64 _ .u32 x (by omega), n_add64 _ (by omega)]
    simp only [z_lfld, z_lld0, blen hw', n_lss, decide_eq_false hib, z_cond, cond_false, Nat.add_zero]
  obtain ⟨H1, st, hw1, f1, sz1, _⟩ := hwr.store (i := i) (by simp; omega) (x := u32 ((c + x + y) % 4294967296)) rfl .i64
  rw [limbs_set, set_app_mid _ _ _ _ hri] at hw1
  have hdm := Nat.mod_add_div (c + x + y) 4294967296
  obtain ⟨rr, H', h1, h2, h3⟩ := add_loop K d lo hw hlo hbs hn hbn hK hroot hS j (i + 1) fuel ((c + x + y) / 4294967296) H1 (res ++ [(c + x + y) % 4294967296]) rest (by omega) (by omega) (by omega) (by simpa using hrl) (fun z hz => hrs z (by simp [hz])) (fun z hz => by
    rcases List.mem_append.1 hz with hz | hz
    ·exact hres z hz
    ·rw [List.mem_singleton.1 hz]; exact Nat.mod_lt _ (by decide)) (by simp [hri]) (Fr.trans hfr (by rw [<- hlo]; exact f1)) hw1 (by
    rw [<- hv, val_append, hri, hy]
    simp only [val, Nat.pow_succ, Nat.mul_zero, Nat.add_zero]
    have : c + x + y = (c + x + y) % 4294967296 + B * ((c + x + y) / 4294967296) := hdm.symm
    generalize (c + x + y) % 4294967296 = lo1 at *
    generalize (c + x + y) / 4294967296 = hi1 at *
    generalize val (bs.drop (i + 1)) = bv
    generalize B ^ i = P at *
    have e : c + (x + B * val rest) + (y + B * bv) = lo1 + B * (hi1 + val rest + bv) := by
     rw [Nat.mul_add, Nat.mul_add]; omega
    rw [e]
    simp only [Nat.mul_add, Nat.mul_assoc]
    omega)
  refine ⟨rr, H', ?_, h2, h3⟩
  rw [z_loop6, hstep]
  unfold f50_j4
  rw [n_conv32, st, show (SV.int .u64 32) = SV.int .u64 ((32 : Nat) : Int) from rfl, n_shr _ .u64 .u64 _ 32 (by decide), show (SV.int .i64 1) = i64 1 from rfl, n_addi _ (by omega)]
  exact h1
theorem add_ok (K : Nat) (d : Nat) (H : Heap) {v w : SV} {a b : Nat} (hv : IsNat H v a) (hw : IsNat H w b) (hK : 1000 < K) (ha : a < 2 ^ 4096) (hb : b < 2 ^ 4096) :
  ∃ r H', runQ wk tab slow K (d + 4) 50 [v, w] H = some (.tuple [r, .int .i64 (if a + b < 2 ^ 4096 then 0 else 3)], H') /\ Frame H H' /\ IsNat H' r (if a + b < 2 ^ 4096 then a + b else 0) := by
 have main : ∀ (x y : SV) (a b : Nat), Arr H x (limbs (digs a)) -> Arr H y (limbs (digs b)) -> a < 2 ^ 4096 -> (digs b).length <= (digs a).length ->
   ∃ r H', f50_j1 slow K (runQ wk tab slow K (d + 3)) (.box [x]) (.box [y]) (.box [.slice nilSl]) H = some (.tuple [r, .int .i64 (if a + b < 2 ^ 4096 then 0 else 3)], H') /\ Frame H H' /\ IsNat H' r (if a + b < 2 ^ 4096 then a + b else 0) := fun x y a b hx hy ha hl => by
  have hla := digs_len ha
  obtain ⟨u, H1, h1, w1, f1, ru, _, _⟩ := z_makeW (H := H) (lo := H.size) (Nat.le_refl _) 4 (.int .u32 0) ((digs a).length + 1) (by omega) (roomy_small (by omega)) .i64 .i64
  obtain ⟨H2, h2, w2, f2, sz2, _⟩ := wr_copy w1 (hx.fr f1) (by simp)
  rw [limbs_zeros] at w2
  have e : limbs (digs a) ++ (limbs (List.replicate ((digs a).length + 1) 0)).drop (limbs (digs a)).length = limbs ([] ++ (digs a ++ [0])) := by
   simp [limbs]
  rw [e] at w2
  have hvala : val (digs a ++ [0]) = a := by rw [val_append, val_digs]; simp [val]
  have haB : a < B ^ (digs a).length := by have := val_lt (digs_small a); rwa [val_digs] at this
  have hbB : b < B ^ (digs a).length := by
   have := val_lt (digs_small b)
   rw [val_digs] at this
   exact Nat.lt_of_lt_of_le this (Nat.pow_le_pow_right (by decide) hl)
  have hS : a + b < B ^ ((digs a).length + 1) := by
   rw [Nat.pow_succ]
   have : B ^ (digs a).length * 2 <= B ^ (digs a).length * B := Nat.mul_le_mul_left _ (by decide)
   omega
  obtain ⟨r, H3, h3, h4, h5⟩ := add_loop K d H.size hy rfl (digs_small b) (n := (digs a).length + 1) (by omega) (by omega) (by omega) ru hS ((digs a).length + 1) 0 K 0 H2 [] (digs a ++ [0]) (by omega) (by omega) (by omega) (by simp) (fun z hz => by
   rcases List.mem_append.1 hz with hz | hz
   ·exact digs_small a z hz
   ·rw [List.mem_singleton.1 hz]; decide) (fun z hz => by cases hz) rfl (Fr.trans f1 f2) w2 (by rw [hvala, List.drop_zero, val_digs]; simp [val])
  refine ⟨r, H3, ?_, h4, h5⟩
  simp only [f50_j1, z_lfld, z_lld0, blen hx]
  rw [show (SV.int .i64 1) = i64 1 from rfl, n_addi _ (by omega), h1, h2, w2.arr.len]
  have e2 : (limbs ([] ++ (digs a ++ [0]))).length = (digs a).length + 1 := by simp
  rw [e2]
  exact h3
 obtain ⟨x, rfl, hx, _⟩ := hv
 obtain ⟨y, rfl, hy, _⟩ := hw
 show ∃ r H', f50 slow K (runQ wk tab slow K (d + 3)) (.agg [x]) (.agg [y]) H = _ /\ _
 simp only [f50, z_bbox, z_lfld, z_lld0, blen hx, blen hy, n_lss, z_cond]
 by_cases h : (digs a).length < (digs b).length
 ·simp only [decide_eq_true h, cond_true, z_lload1, z_bst1]
  have := main y x b a hy hx hb (by omega)
  rwa [Nat.add_comm b a] at this
 ·simp only [decide_eq_false h, cond_false]
  exact main x y a b hx hy ha (by omega)
end Go.Sh.Of
namespace Go.Sh.Of
open Go
theorem borrow_eq {x y c : Nat} (hx : x < 4294967296) (hy : y < 4294967296) (hc : c <= 1) : ∃ z c', (x + 2 * 4294967296 - y - c) % 4294967296 = z /\ (if x < y + c then 1 else 0) = c' /\ z < B /\ c' <= 1 /\ z + y + c = x + B * c' := by
 refine ⟨_, _, rfl, rfl, Nat.mod_lt _ (by decide), by split <;> omega, ?_⟩
 show _ = x + 4294967296 * _
 split <;> omega
theorem less_loop (C : CallC) (K : Nat) (d : Nat) (lo : Nat) {H0 : Heap} {v w : SV} {bs : List Nat} (hw : Arr H0 w (limbs bs)) (hlo : lo = H0.size) (hbs : Small bs) {n : Nat} (hn : n < 100000) (hbn : bs.length <= n) {r : Nat} {S : Nat} : ∀ (j i fuel : Nat) (c : Nat) (H : Heap) (res rest : List Nat), i + j = n -> j < fuel -> c <= 1 -> rest.length = j -> Small rest -> Small res -> res.length = i -> Frame H0 H -> Wr lo H v r [] (limbs (res ++ rest)) [] -> val res + B ^ i * val rest = S + B ^ i * (c + val (bs.drop i)) -> val (bs.drop i) + c <= val rest ->
  ∃ H' res', slow.loop5 (f79_l1 slow K (runQ wk tab slow K (d + 1))) fuel v w (u32 c) (i64 n) (i64 i) H = some (.tuple [], H') /\ Frame H0 H' /\ Wr lo H' v r [] (limbs res') [] /\ Small res' /\ val res' = S /\ res'.length = n
 | 0, i, fuel, c, H, res, rest, hij, hf, hc, hrl, hrs, hres, hri, hfr, hwr, hv, hge => by
  obtain ⟨fuel, rfl⟩ : ∃ m, fuel = m + 1 := ⟨fuel - 1, by omega⟩
  have hrest : rest = [] := List.eq_nil_of_length_eq_zero hrl
  subst hrest
  have hdrop : bs.drop i = [] := List.drop_eq_nil_iff.2 (by omega)
  rw [hdrop] at hv hge
  simp only [val] at hv hge
  have hc0 : c = 0 := by omega
  subst hc0
  rw [List.append_nil] at hwr
  refine ⟨H, res, ?_, hfr, hwr, hres, by simpa using hv, by omega⟩
  rw [z_loop5]
  have hlt : ¬ (i < n) := by omega
  simp only [f79_l1, n_lss, decide_eq_false hlt, z_cond, cond_false, f79_j5]
 | j + 1, i, fuel, c, H, res, rest, hij, hf, hc, hrl, hrs, hres, hri, hfr, hwr, hv, hge => by
  obtain ⟨fuel, rfl⟩ : ∃ m, fuel = m + 1 := ⟨fuel - 1, by omega⟩
  obtain ⟨x, rest, rfl⟩ : ∃ x l, rest = x :: l := by cases rest with | nil => simp at hrl | cons x l => exact ⟨x, l, rfl⟩
  have hxB : x < 4294967296 := hrs x (by simp)
  have hlt : i < n := by omega
  have hget : (limbs (res ++ x :: rest))[i]? = some (u32 x) := limbs_get (get_app_mid _ _ _ hri)
  have hw' := hw.fr hfr
  have step : ∀ y, y < 4294967296 -> val (bs.drop i) = y + B * val (bs.drop (i + 1)) -> ∃ H' res', f79_j3 slow K (runQ wk tab slow K (d + 1)) (slow.loop5 (f79_l1 slow K (runQ wk tab slow K (d + 1))) fuel) v w (u32 c) (i64 i) (u32 y) (i64 n) (i64 i) H = some (.tuple [], H') /\ Frame H0 H' /\ Wr lo H' v r [] (limbs res') [] /\ Small res' /\ val res' = S /\ res'.length = n := fun y hyB hy => by
   obtain ⟨z, c', hzz, hcc, hlt1, hc1, hbor⟩ := borrow_eq hxB hyB hc
   obtain ⟨H1, st, hw1, f1, sz1, _⟩ := hwr.store (i := i) (by simp; omega) (x := u32 z) rfl .i64
   rw [limbs_set, set_app_mid _ _ _ _ hri] at hw1
   rw [hy] at hv hge
   simp only [val] at hv hge
   obtain ⟨H', res', h1, h2, h3, h4, h5, h6⟩ := less_loop C K d lo hw hlo hbs hn hbn (S := S) j (i + 1) fuel c' H1 (res ++ [z]) rest (by omega) (by omega) hc1 (by simpa using hrl) (fun q hq => hrs q (by simp [hq])) (fun q hq => by
     rcases List.mem_append.1 hq with hq | hq
     ·exact hres q hq
     ·rw [List.mem_singleton.1 hq]; exact hlt1) (by simp [hri]) (Fr.trans hfr (by rw [<- hlo]; exact f1)) hw1 (by
     rw [val_append, hri]
     simp only [val, Nat.mul_zero, Nat.add_zero, Nat.pow_succ]
     generalize val (bs.drop (i + 1)) = bv at *
     generalize val rest = rv at *
     generalize B ^ i = P at *
     have e1 : P * (z + y + c) = P * (x + B * c') := by rw [hbor]
     simp only [Nat.mul_add, Nat.mul_assoc] at hv e1 ⊢
     omega) (by
     generalize val (bs.drop (i + 1)) = bv at *
     generalize val rest = rv at *
     apply Nat.le_of_not_lt
     intro hlt2
     have : B * rv + B <= B * (bv + c') := by rw [<- Nat.mul_succ]; exact Nat.mul_le_mul_left _ hlt2
     rw [Nat.mul_add] at this
     omega)
   refine ⟨H', res', ?_, h2, h3, h4, h5, h6⟩
   unfold f79_j3
   rw [hwr.arr.load hget, sub32_ok K d H hxB hyB hc, hzz, hcc, z_call, z_ext0, z_ext1]
   rw [st, show (SV.int .i64 1) = i64 1 from rfl, n_addi _ (by omega)]
   exact h1
  rw [z_loop5]
  by_cases hib : i < bs.length
  ·obtain ⟨y, hy⟩ : ∃ y, bs[i]? = some y := ⟨_, List.getElem?_eq_getElem hib⟩
   have hyB : y < 4294967296 := hbs y (List.mem_of_getElem? hy)
   have hdb : bs.drop i = y :: bs.drop (i + 1) := List.drop_eq_getElem?_toList_append (l := bs) (i := i) ▸ by rw [hy]; rfl
   simp only [f79_l1, n_lss, decide_eq_true hlt, z_cond, cond_true, blen hw', decide_eq_true hib, hw'.load (limbs_get hy)]
   exact step y hyB (by rw [hdb]; rfl)
  ·have hdb : bs.drop i = [] := List.drop_eq_nil_iff.2 (by omega)
   have hdb2 : bs.drop (i + 1) = [] := List.drop_eq_nil_iff.2 (by omega)
   simp only [f79_l1, n_lss, decide_eq_true hlt, z_cond, cond_true, blen hw', decide_eq_false hib, cond_false]
   rw [show (SV.int .u32 0) = u32 0 from rfl, n_eql, z_cond]
   by_cases hc0 : c = 0
   ·subst hc0
    simp only [decide_true, cond_true, f79_j5]
    rw [hdb] at hv
    refine ⟨H, res ++ x :: rest, rfl, hfr, hwr, fun q hq => ?_, ?_, by simp at hrl; simp; omega⟩
    ·rcases List.mem_append.1 hq with hq | hq
     ·exact hres q hq
     ·exact hrs q hq
    ·rw [val_append, hri, hv]; simp [val]
   ·simp only [decide_eq_false hc0, cond_false]
    exact step 0 (by decide) (by rw [hdb, hdb2]; rfl)
theorem sub_ok (K : Nat) (d : Nat) (H : Heap) {v w : SV} {a b : Nat} (hv : IsNat H v a) (hw : IsNat H w b) (hK : 1000 < K) (ha : a < 2 ^ 4096) :
  ∃ r H', runQ wk tab slow K (d + 3) 51 [v, w] H = some (.tuple [r, .int .i64 (if a < b then 10 else 0)], H') /\ Frame H H' /\ IsNat H' r (a - b) := by
 have hla := digs_len ha
 have hcmp := cmp_ok K (d + 1) H hv hw (by omega) (by omega)
 obtain ⟨x, rfl, hx, _⟩ := hv
 obtain ⟨y, rfl, hy, _⟩ := hw
 show ∃ r H', f51 slow K (runQ wk tab slow K (d + 2)) (.agg [x]) (.agg [y]) H = _ /\ _
 simp only [f51, z_bbox, z_lload1, hcmp, z_call, z_lss]
 by_cases h : a < b
 ·have hc : cmpN a b < 0 := by simp [cmpN, h]
  simp only [decide_eq_true hc, z_cond, cond_true, z_build0, z_bst1, z_resc1, if_pos h]
  refine ⟨_, H, rfl, Fr.refl _ _, _, rfl, ?_, rfl⟩
  rw [show a - b = 0 by omega, digs_zero]
  exact Arr.nil H
 ·have hc : ¬ cmpN a b < 0 := by unfold cmpN; rw [if_neg h]; split <;> omega
  simp only [decide_eq_false hc, z_cond, cond_false, z_lfld, z_lld0, blen hx, if_neg h]
  obtain ⟨u, H1, h1, w1, f1, ru, _, _⟩ := z_makeW (H := H) (lo := H.size) (Nat.le_refl _) 4 (.int .u32 0) (digs a).length (by omega) (roomy_small (by omega)) .i64 .i64
  obtain ⟨H2, h2, w2, f2, sz2, _⟩ := wr_copy w1 (hx.fr f1) (by simp)
  have e : limbs (digs a) ++ (List.replicate (digs a).length (SV.int .u32 0)).drop (limbs (digs a)).length = limbs ([] ++ digs a) := by simp [limbs]
  rw [e] at w2
  have hbl : (digs b).length <= (digs a).length := by
   apply Nat.le_of_not_lt
   intro hlt
   exact h (val_cmp_len hlt)
  obtain ⟨H3, res, h3, f3, w3, s3, v3, l3⟩ := less_loop (runQ wk tab slow K (d + 2)) K d H.size hy rfl (digs_small b) (n := (digs a).length) (by omega) hbl (S := a - b) (digs a).length 0 K 0 H2 [] (digs a) (by omega) (by omega) (by omega) rfl (digs_small a) (fun q hq => by cases hq) rfl (Fr.trans f1 f2) w2 (by rw [List.drop_zero, val_digs, val_digs]; simp [val]; omega) (by rw [List.drop_zero, val_digs, val_digs]; omega)
  obtain ⟨sl, h4, h5⟩ := cut_ok K (d + 1) H3 (ds := res) w3.arr s3 ru (by omega) (by omega)
  rw [h1, h2]
  have e3 : runQ wk tab slow K (d + 2) 79 [u, y] H2 = some (.tuple [], H3) := by
   show f79 slow K (runQ wk tab slow K (d + 1)) u y H2 = _
   unfold f79
   rw [w2.arr.len]
   have e4 : (limbs ([] ++ digs a)).length = (digs a).length := by simp
   rw [e4]
   exact h3
  have hnat := h5.isNat
  rw [v3] at hnat
  simp only [e3, z_call, h4, z_bst1, z_resc1]
  exact ⟨_, H3, rfl, f3, hnat⟩
end Go.Sh.Of
namespace Go.Sh.Of
open Go
section
variable (k : K1)
theorem z_build2 (b : Bool) (x : SV) : slow.build [.bool false, .slice nilSl] [(0, 1), (1, 1)] [.bool b, .agg [x]] k = k (.agg [.bool b, x]) := rfl
theorem z_bst2 (a b x y : SV) (k : KL) : slow.bstore 0 2 (.box [a, b]) (.agg [x, y]) k = k [x, y] := rfl
theorem z_resc2 (x y : SV) : slow.resc 2 true (.box [x, y]) k = k (.agg [x, y]) := rfl
theorem z_lload2 (x y : SV) : slow.lload 0 2 true (.box [x, y]) k = k (.agg [x, y]) := rfl
theorem z_lldn (x y : SV) : slow.lloadp 1 true (.box [x, y]) (.lptr 1) k = k (.agg [y]) := rfl
theorem z_sadd {a b : List UInt8} (h : a.length + b.length <= 4611686018427387904) : slow.add (.str a) (.str b) k = k (.str (a ++ b)) := by
 show (opP (.bin .add) [.str a, .str b]).bind k = _
 simp only [opP, binOp, strOp, Nat.ble_eq_true_of_le h, cond_true, Option.bind_some]
end
def IsInt (H : Heap) (v : SV) (z : Int) : Prop := ∃ sl, v = .agg [.bool (decide (z < 0)), sl] /\ Arr H sl (limbs (digs z.natAbs)) /\ sl.flat = true
theorem IsInt.fr {H H' : Heap} {v : SV} {z : Int} (h : IsInt H v z) (hf : Frame H H') : IsInt H' v z := by
 obtain ⟨sl, h1, h2, h3⟩ := h
 exact ⟨sl, h1, h2.fr hf, h3⟩
theorem IsInt.zero (H : Heap) : IsInt H (.agg [.bool false, .slice nilSl]) 0 := ⟨_, rfl, by show Arr H _ (limbs (digs 0)); rw [digs_zero]; exact Arr.nil H, rfl⟩
def sgn (m : Bool) (n : Nat) : Int := if m then -(n : Int) else n
theorem sgn_abs (m : Bool) (n : Nat) : (sgn m n).natAbs = n := by unfold sgn; split <;> omega
theorem sgn_neg (m : Bool) (n : Nat) : decide (sgn m n < 0) = (m && decide (n > 0)) := by
 unfold sgn
 cases m <;> simp <;> omega
theorem sgn_self (z : Int) : sgn (decide (z < 0)) z.natAbs = z := by
 unfold sgn
 by_cases h : z < 0 <;> simp [h] <;> omega
theorem zmake_ok (K : Nat) (d : Nat) (H : Heap) {v : SV} {n : Nat} (m : Bool) (hv : IsNat H v n) (hb : (digs n).length < 10000000) :
  ∃ r, runQ wk tab slow K (d + 3) 42 [.bool m, v] H = some (r, H) /\ IsInt H r (sgn m n) := by
 have hbits := bits_ok K d H hv hb
 obtain ⟨sl, rfl, ha, hf⟩ := hv
 show ∃ r, f42 slow K (runQ wk tab slow K (d + 2)) (.bool m) (.agg [sl]) H = _ /\ _
 cases m with
 | false =>
  refine ⟨.agg [.bool false, sl], ?_, sl, ?_, ?_, hf⟩
  ·simp only [f42, z_bbox, z_guard, cond_false, z_lload1, z_build2, z_bst2, f42_j1, z_resc2]
  ·rw [sgn_neg]; rfl
  ·rw [sgn_abs]; exact ha
 | true =>
  refine ⟨.agg [.bool (decide (n > 0)), sl], ?_, sl, ?_, ?_, hf⟩
  ·have e : decide ((bl n : Int) > 0) = decide (n > 0) := decide_eq_decide.2 (by
    unfold bl
    split <;> omega)
   simp only [f42, z_bbox, z_guard, cond_true, z_lload1, hbits, z_call, z_gtr, e, z_build2, z_bst2, f42_j1, z_resc2]
  ·rw [sgn_neg]; rfl
  ·rw [sgn_abs]; exact ha
def textZ (z : Int) : List UInt8 := if z < 0 then 45 :: dec z.natAbs else dec z.natAbs
theorem dec_len (n : Nat) : (dec n).length <= (decLE n).length + 1 := by unfold dec; split <;> simp
theorem dec_bits {n : Nat} (h : n < 2 ^ 4096) : (decLE n).length <= 4096 := decLE_len (Nat.lt_of_lt_of_le h (two_ten 4096))
theorem ztext_ok (K : Nat) (hK : 10000 < K) (d : Nat) (H : Heap) {v : SV} {z : Int} (hv : IsInt H v z) (hz : z.natAbs < 2 ^ 4096) :
  ∃ H', runQ wk tab slow K (d + 3) 18 [v] H = some (.str (textZ z), H') /\ Frame H H' := by
 obtain ⟨sl, rfl, ha, hf⟩ := hv
 have h1 := dec_bits hz
 have h2 := digs_len hz
 obtain ⟨H1, h3, f1⟩ := text_ok K d H (v := .agg [sl]) (n := z.natAbs) ⟨sl, rfl, ha, hf⟩ (by omega) (by omega) (by omega) (by omega) (by omega)
 show ∃ H', f18 slow K (runQ wk tab slow K (d + 2)) _ H = _ /\ _
 refine ⟨H1, ?_, f1⟩
 simp only [f18, z_bbox, z_lfld, z_lld0, z_cond, z_lldn, h3, z_call, z_rest_str]
 by_cases h : z < 0
 ·have h5 := dec_len z.natAbs
  rw [decide_eq_true h, cond_true, z_sadd _ (by simp; omega), z_rest_str]
  simp [textZ, h]
 ·rw [decide_eq_false h, cond_false]
  simp [textZ, h]
theorem zneg_ok (K : Nat) (d : Nat) (H : Heap) {v : SV} {z : Int} (hv : IsInt H v z) (hz : z.natAbs < 2 ^ 4096) :
  ∃ r, runQ wk tab slow K (d + 4) 25 [v] H = some (r, H) /\ IsInt H r (-z) := by
 obtain ⟨sl, rfl, ha, hf⟩ := hv
 have h2 := digs_len hz
 obtain ⟨r, h3, sl2, rfl, h5, h6⟩ := zmake_ok K d H (v := .agg [sl]) (n := z.natAbs) (!decide (z < 0)) ⟨sl, rfl, ha, hf⟩ (by omega)
 have e : sgn (!decide (z < 0)) z.natAbs = -z := by
  unfold sgn
  by_cases h : z < 0 <;> simp [h] <;> omega
 rw [e] at h5 h3
 show ∃ r, f25 slow K (runQ wk tab slow K (d + 3)) _ H = _ /\ _
 refine ⟨_, ?_, sl2, rfl, h5, h6⟩
 simp only [f25, z_bbox, z_lfld, z_lld0, z_not, z_lldn, h3, z_call, z_bst2, z_resc2]
theorem zabs_ok (K : Nat) (d : Nat) (H : Heap) {v : SV} {z : Int} (hv : IsInt H v z) :
  ∃ r, runQ wk tab slow K (d + 1) 27 [v] H = some (r, H) /\ IsNat H r z.natAbs := by
 obtain ⟨sl, rfl, ha, hf⟩ := hv
 show ∃ r, f27 slow K (runQ wk tab slow K d) _ H = _ /\ _
 refine ⟨.agg [sl], ?_, sl, rfl, ha, hf⟩
 simp only [f27, z_bbox, z_lfld, z_lldn, z_bst1, z_resc1]
def signZ (z : Int) : Int := if z = 0 then 0 else if z < 0 then -1 else 1
theorem zsign_ok (K : Nat) (d : Nat) (H : Heap) {v : SV} {z : Int} (hv : IsInt H v z) (hz : z.natAbs < 2 ^ 4096) :
  runQ wk tab slow K (d + 3) 24 [v] H = some (.int .i64 (signZ z), H) := by
 obtain ⟨sl, rfl, ha, hf⟩ := hv
 have h2 := digs_len hz
 have hb := bits_ok K d H (v := .agg [sl]) (n := z.natAbs) ⟨sl, rfl, ha, hf⟩ (by omega)
 show f24 slow K (runQ wk tab slow K (d + 2)) _ H = _
 simp only [f24, z_bbox, z_lfld, z_lldn, z_lld0, hb, z_call, z_eql, z_cond]
 have e : ((bl z.natAbs : Int) == 0) = decide (z = 0) := by
  rw [Bool.eq_iff_iff, beq_iff_eq, decide_eq_true_eq]
  unfold bl
  split <;> omega
 rw [e]
 unfold signZ
 by_cases h0 : z = 0
 ·simp [h0]
 ·by_cases h1 : z < 0 <;> simp [h0, h1]
end Go.Sh.Of
namespace Go.Sh.Of
open Go
structure Est (x u2 ur v1 v2 vr W P V q : Nat) : Prop where
 hP : P = (x * B + u2) * W + ur
 hV : V = (v1 * B + v2) * W + vr
 ur : ur < W
 vr : vr < W
 u2 : u2 < B
 v2 : v2 < B
 v1 : 0 < v1
 le : q * V <= P
 lt : P < (q + 1) * V
 qB : q < B
theorem est_start {x u2 ur v1 v2 vr W P V q : Nat} (h : Est x u2 ur v1 v2 vr W P V q) : q <= x / v1 := by
 rw [Nat.le_div_iff_mul_le h.v1]
 refine Decidable.byContradiction fun hn => ?_
 have h1 : x + 1 <= q * v1 := by omega
 have h2 := h.le
 rw [h.hP, h.hV] at h2
 have h3 : (x + 1) * (B * W) <= q * v1 * (B * W) := Nat.mul_le_mul_right _ h1
 have h4 : (u2 + 1) * W <= B * W := Nat.mul_le_mul_right _ h.u2
 have h5 := h.ur
 simp only [Nat.add_mul, Nat.mul_add, Nat.mul_assoc, Nat.one_mul] at h2 h3 h4
 generalize q * (v2 * W) = a at *
 generalize q * vr = b at *
 generalize q * (v1 * (B * W)) = c at *
 generalize x * (B * W) = e at *
 generalize u2 * W = g at *
 generalize B * W = z at *
 omega
theorem est_over {x u2 ur v1 v2 vr W P V q d r : Nat} (h : Est x u2 ur v1 v2 vr W P V q) (hx : d * v1 + r = x) (hd : r * B + u2 < d * v2) : q < d := by
 refine Decidable.byContradiction fun hn => ?_
 have h0 : d <= q := by omega
 have h2 : d * V <= P := Nat.le_trans (Nat.mul_le_mul_right _ h0) h.le
 rw [h.hP, h.hV, <- hx] at h2
 have h3 : (r * B + u2 + 1) * W <= d * v2 * W := Nat.mul_le_mul_right _ hd
 have h5 := h.ur
 simp only [Nat.add_mul, Nat.mul_add, Nat.mul_assoc, Nat.one_mul] at h2 h3
 generalize d * (v1 * (B * W)) = a at *
 generalize d * (v2 * W) = b at *
 generalize d * vr = c at *
 generalize r * (B * W) = e at *
 generalize u2 * W = g at *
 omega
theorem est_end {x u2 ur v1 v2 vr W P V q d r : Nat} (h : Est x u2 ur v1 v2 vr W P V q) (hx : d * v1 + r = x) (hd : d < B) (ht : d * v2 <= r * B + u2) : d <= q + 1 := by
 refine Decidable.byContradiction fun hn => ?_
 have h0 : q + 1 + 1 <= d := by omega
 have h1 : (q + 1 + 1) * V <= d * V := Nat.mul_le_mul_right _ h0
 have h2 : d * V < P + V := by
  have h3 : d * v2 * W <= (r * B + u2) * W := Nat.mul_le_mul_right _ ht
  have h4 : d * vr <= B * vr := Nat.mul_le_mul_right _ (Nat.le_of_lt hd)
  have h5 : B * vr < B * W := Nat.mul_lt_mul_of_pos_left h.vr (by decide)
  have h6 : 1 * (B * W) <= v1 * (B * W) := Nat.mul_le_mul_right _ h.v1
  rw [h.hP, <- hx]
  have h7 : V = v1 * (B * W) + v2 * W + vr := by rw [h.hV, Nat.add_mul, Nat.mul_assoc]
  have h8 : d * V = d * (v1 * (B * W)) + d * (v2 * W) + d * vr := by rw [h7, Nat.mul_add, Nat.mul_add]
  rw [h8, h7]
  simp only [Nat.add_mul, Nat.mul_add, Nat.mul_assoc, Nat.one_mul] at h3 h6 ⊢
  generalize d * (v1 * (B * W)) = a at *
  generalize d * (v2 * W) = b at *
  generalize d * vr = c at *
  generalize r * (B * W) = e at *
  generalize u2 * W = g at *
  generalize v1 * (B * W) = k at *
  generalize B * W = z at *
  generalize B * vr = y at *
  omega
 have h3 := h.lt
 rw [Nat.add_mul _ 1, Nat.one_mul] at h1
 generalize (q + 1) * V = a at *
 generalize d * V = b at *
 omega
theorem est_break {x v1 v2 u2 d r u0 u1 : Nat} (hx : d * v1 + r = x) (hx2 : x = u0 * B + u1) (hu1 : u1 < B) (hu0 : u0 <= v1) (hv1 : 0 < v1) (hv2 : v2 < B) (hr : B <= r) : d < B /\ d * v2 <= r * B + u2 := by
 have h1 : u0 * B <= v1 * B := Nat.mul_le_mul_right _ hu0
 have h2 : d * v1 < B * v1 := by
  rw [Nat.mul_comm B v1]
  generalize d * v1 = a at *
  generalize u0 * B = b at *
  generalize v1 * B = c at *
  omega
 have h3 : d < B := Nat.lt_of_mul_lt_mul_right h2
 refine ⟨h3, ?_⟩
 have h4 : d * v2 <= B * B := Nat.mul_le_mul (Nat.le_of_lt h3) (Nat.le_of_lt hv2)
 have h5 : B * B <= r * B := Nat.mul_le_mul_right _ hr
 generalize d * v2 = a at *
 generalize r * B = b at *
 generalize B * B = c at *
 omega
theorem est_first {x v1 u0 u1 : Nat} (hx2 : x = u0 * B + u1) (hu1 : u1 < B) (hu0 : u0 <= v1) (hv1 : B <= v1 + v1) : x / v1 < B + 1 + 1 := by
  have h0 : 0 < v1 := by have : 0 < B := by decide
                         omega
  rw [Nat.div_lt_iff_lt_mul h0]
  have h1 : u0 * B <= v1 * B := Nat.mul_le_mul_right _ hu0
  rw [hx2, Nat.add_mul, Nat.add_mul, Nat.mul_comm B v1, Nat.one_mul]
  generalize u0 * B = a at *
  generalize v1 * B = b at *
  omega
end Go.Sh.Of
namespace Go.Sh.Of
open Go
theorem B_pos : 0 < B := by decide
theorem val_split {l : List Nat} {i : Nat} (h : i <= l.length) : val l = val (l.take i) + B ^ i * val (l.drop i) := by
 have := val_append (l.take i) (l.drop i)
 rw [List.take_append_drop, List.length_take, Nat.min_eq_left h] at this
 exact this
theorem val_drop {l : List Nat} {i x : Nat} (h : l[i]? = some x) : val (l.drop i) = x + B * val (l.drop (i + 1)) := by
 have hdb : l.drop i = x :: l.drop (i + 1) := List.drop_eq_getElem?_toList_append (l := l) (i := i) ▸ by rw [h]; rfl
 rw [hdb]
 rfl
theorem val_take {l : List Nat} {i x : Nat} (h : l[i]? = some x) : val (l.take (i + 1)) = val (l.take i) + B ^ i * x := by
 have hi := (List.getElem?_eq_some_iff.1 h).1
 rw [List.take_add_one, h, val_append, List.length_take, Nat.min_eq_left (by omega)]
 simp [val]
theorem small_take {l : List Nat} (h : Small l) (i : Nat) : Small (l.take i) := fun d hd => h d (List.mem_of_mem_take hd)
theorem small_drop {l : List Nat} (h : Small l) (i : Nat) : Small (l.drop i) := fun d hd => h d (List.mem_of_mem_drop hd)
theorem small_app {a b : List Nat} (ha : Small a) (hb : Small b) : Small (a ++ b) := fun d hd => by
 rcases List.mem_append.1 hd with h | h
 ·exact ha d h
 ·exact hb d h
theorem small_one {z : Nat} (h : z < B) : Small [z] := fun d hd => by rw [List.mem_singleton.1 hd]; exact h
theorem or_shift {n c x : Nat} (h : c < 2 ^ n) : c ||| x * 2 ^ n = x * 2 ^ n + c := by
 rw [<- Nat.shiftLeft_eq, Nat.or_comm, Nat.shiftLeft_add_eq_or_of_lt h]
theorem u_inc {a : Nat} (h : a < 1000000) (k : K1) : slow.add (i64 a) (.int .i64 1) k = k (i64 (a + 1)) := n_addi k (b := 1) (by omega)
theorem pow_32 {n : Nat} (h : n <= 31) : 2 ^ n <= 2147483648 := show 2 ^ n <= 2 ^ 31 from Nat.pow_le_pow_right (by decide) h
theorem up_loop (C : CallC) (K : Nat) {H0 : Heap} {w v : SV} {ds : List Nat} (hw : Arr H0 w (limbs ds)) (hds : Small ds) {n m : Nat} (hn : n <= 31) (hm : m < 100000) (hdm : ds.length <= m) : ∀ (j i fuel : Nat) (c : Nat) (H : Heap) (res : List Nat), i + j = m -> j < fuel -> c < 2 ^ n -> Small res -> res.length = i -> Frame H0 H -> Own H0.size H v (limbs (res ++ List.replicate j 0)) -> val res + B ^ i * c = val (ds.take i) * 2 ^ n ->
  ∃ H' res' c', slow.loop6 (f95_l1 slow K C) fuel w (i64 n) v (u64 c) (i64 m) (i64 i) H = some (v, H') /\ Frame H0 H' /\ Own H0.size H' v (limbs res') /\ Small res' /\ res'.length = m /\ val res' + B ^ m * c' = val ds * 2 ^ n
 | 0, i, fuel, c, H, res, hij, hf, hc, hrs, hrl, hfr, ho, hv => by
  obtain ⟨fuel, rfl⟩ : ∃ q, fuel = q + 1 := ⟨fuel - 1, by omega⟩
  have hlt : ¬ i < m := by omega
  have e : i = m := by omega
  subst e
  rw [List.replicate_zero, List.append_nil] at ho
  rw [List.take_of_length_le hdm] at hv
  refine ⟨H, res, c, ?_, hfr, ho, hrs, hrl, hv⟩
  rw [z_loop6]
  simp only [f95_l1, n_lss, decide_eq_false hlt, z_cond, cond_false, z_rest ho.arr.good]
 | j + 1, i, fuel, c, H, res, hij, hf, hc, hrs, hrl, hfr, ho, hv => by
  obtain ⟨fuel, rfl⟩ : ∃ q, fuel = q + 1 := ⟨fuel - 1, by omega⟩
  have hlt : i < m := by omega
  have h31 := pow_32 hn
  have step : ∀ y, y < B * 2 ^ n -> val res + B ^ i * y = val (ds.take (i + 1)) * 2 ^ n -> ∃ H' res' c', f95_j3 slow K C (slow.loop6 (f95_l1 slow K C) fuel) w (i64 n) v (u64 y) (i64 i) (i64 m) (i64 i) H = some (v, H') /\ Frame H0 H' /\ Own H0.size H' v (limbs res') /\ Small res' /\ res'.length = m /\ val res' + B ^ m * c' = val ds * 2 ^ n := fun y hy hval => by
   obtain ⟨H1, st, o1, g1, _, _⟩ := ho.store (i := i) (by simp; omega) (x := u32 (y % B)) rfl .i64
   rw [limbs_set, List.replicate_succ, set_app_mid _ _ _ _ hrl] at o1
   have hyB : y % B < B := Nat.mod_lt _ B_pos
   have hyD : y / B < 2 ^ n := Nat.div_lt_of_lt_mul hy
   obtain ⟨H2, res', c', h2, g2⟩ := up_loop C K hw hds hn hm hdm j (i + 1) fuel (y / B) H1 (res ++ [y % B]) (by omega) (by omega) hyD (small_app hrs (small_one hyB)) (by simp [hrl]) (Fr.trans hfr g1) o1 (by
    rw [val_append, hrl]
    simp only [val, Nat.mul_zero, Nat.add_zero]
    rw [<- hval, Nat.pow_succ, Nat.mul_assoc, Nat.add_assoc, <- Nat.mul_add, Nat.mod_add_div])
   refine ⟨H2, res', c', ?_, g2⟩
   have e1 : y % 4294967296 = y % B := rfl
   have e2 : ∀ k, slow.shr (u64 y) (.int .u64 32) k = k (u64 (y / B)) := fun k => n_shr k .u64 .u64 y 32 (by decide)
   simp only [f95_j3, n_conv32, e1, st, e2, u_inc (show i < 1000000 by omega)]
   exact h2
  rw [z_loop6]
  by_cases hib : i < ds.length
  ·obtain ⟨x, hx⟩ : ∃ x, ds[i]? = some x := ⟨_, List.getElem?_eq_getElem hib⟩
   have hxB : x < 4294967296 := hds x (List.mem_of_getElem? hx)
   have hb1 : x * 2 ^ n <= 4294967295 * 2147483648 := Nat.mul_le_mul (by omega) h31
   have hb2 : x * 2 ^ n < 18446744073709551616 := by omega
   have hb3 : x * 2 ^ n + c < B * 2 ^ n := by
    have : (x + 1) * 2 ^ n <= B * 2 ^ n := Nat.mul_le_mul_right _ hxB
    rw [Nat.add_mul, Nat.one_mul] at this
    generalize x * 2 ^ n = a at *
    generalize B * 2 ^ n = b at *
    generalize 2 ^ n = p at *
    omega
   obtain ⟨H', res', c', h1, g1⟩ := step (x * 2 ^ n + c) hb3 (by
    rw [val_take hx, Nat.add_mul, <- hv, Nat.mul_add, Nat.mul_assoc]
    generalize B ^ i * (x * 2 ^ n) = a
    generalize B ^ i * c = b
    omega)
   refine ⟨H', res', c', ?_, g1⟩
   have e3 : ∀ k, slow.shl (u64 x) (i64 n) k = k (u64 (x * 2 ^ n)) := fun k => n_shl64 k .i64 x n (by omega) hb2
   have e4 : ∀ k, slow.or (u64 c) (u64 (x * 2 ^ n)) k = k (u64 (x * 2 ^ n + c)) := fun k => by rw [n_or64 _ (by omega) hb2, or_shift hc]
   simp only [f95_l1, n_lss, decide_eq_true hlt, z_cond, cond_true, blen (hw.fr hfr), decide_eq_true hib, (hw.fr hfr).load (limbs_get hx), n_conv64 _ .u32 x (by omega), e3, e4]
   exact h1
  ·have e5 : ds.take (i + 1) = ds.take i := by rw [List.take_of_length_le (by omega), List.take_of_length_le (by omega)]
   have hcB : c < B * 2 ^ n := by
    have : 1 * 2 ^ n <= B * 2 ^ n := Nat.mul_le_mul_right _ B_pos
    omega
   obtain ⟨H', res', c', h1, g1⟩ := step c hcB (by rw [e5]; exact hv)
   refine ⟨H', res', c', ?_, g1⟩
   simp only [f95_l1, n_lss, decide_eq_true hlt, z_cond, cond_true, blen (hw.fr hfr), decide_eq_false hib, cond_false]
   exact h1
theorem up_ok (K : Nat) (hK : 100000 < K) (d : Nat) (H : Heap) {w : SV} {ds : List Nat} (hw : Arr H w (limbs ds)) (hds : Small ds) {n m : Nat} (hn : n <= 31) (hm : m < 100000) (hdm : ds.length <= m) (hlt : val ds * 2 ^ n < B ^ m) :
  ∃ v H' res, runQ wk tab slow K (d + 1) 95 [w, i64 n, i64 m] H = some (v, H') /\ Frame H H' /\ Own H.size H' v (limbs res) /\ Small res /\ res.length = m /\ val res = val ds * 2 ^ n := by
 show ∃ v H' res, f95 slow K (runQ wk tab slow K d) w (i64 n) (i64 m) H = _ /\ _
 obtain ⟨v, H1, h1, o1, g1, _, _⟩ := z_make (H := H) (lo := H.size) (Nat.le_refl _) 4 (.int .u32 0) m (by omega) (roomy_small (by omega)) .i64 .i64
 rw [limbs_zeros] at o1
 obtain ⟨H2, res, c, h2, g2, o2, s2, l2, v2⟩ := up_loop (runQ wk tab slow K d) K hw hds hn hm hdm m 0 K 0 H1 [] (by omega) (by omega) (Nat.pow_pos (by decide)) (fun d hd => by cases hd) rfl g1 (by simpa using o1) (by simp [val])
 have hlen : ∀ k, slow.len v k = k (i64 m) := fun k => by rw [blen o1.arr, List.length_replicate]
 refine ⟨v, H2, res, ?_, g2, o2, s2, l2, ?_⟩
 ·simp only [f95, h1, hlen]
  exact h2
 ·have hc : c = 0 := by
   rcases Nat.eq_zero_or_pos c with h | h
   ·exact h
   ·have : B ^ m * 1 <= B ^ m * c := Nat.mul_le_mul_left _ h
    omega
  rw [hc] at v2
  simpa using v2
theorem mod_step (N i : Nat) : N % B ^ i + B ^ i * (N / B ^ i % B) = N % B ^ (i + 1) := by
 rw [Nat.pow_succ, Nat.mod_mul]
theorem down_digit {D n i x y r : Nat} (hn : n <= 31) (h : D / B ^ i = x + B * (y + B * r)) : (x + B * y) / 2 ^ n % B = D / 2 ^ n / B ^ i % B := by
 rw [Nat.div_div_eq_div_mul, Nat.mul_comm (2 ^ n), <- Nat.div_div_eq_div_mul, h]
 have e : B = 2 ^ n * 2 ^ (32 - n) := by
  rw [<- Nat.pow_add, show n + (32 - n) = 32 by omega]
  rfl
 have e2 : x + B * (y + B * r) = (x + B * y) + 2 ^ n * (B * (2 ^ (32 - n) * r)) := by
  rw [Nat.mul_add, <- Nat.add_assoc]
  congr 1
  calc B * (B * r) = (2 ^ n * 2 ^ (32 - n)) * (B * r) := by rw [<- e]
   _ = 2 ^ n * (B * (2 ^ (32 - n) * r)) := by
    rw [Nat.mul_assoc, Nat.mul_left_comm (2 ^ (32 - n)) B r]
 rw [e2, Nat.add_mul_div_left _ _ (Nat.pow_pos (by decide)), Nat.add_mul_mod_self_left]
theorem val_div {l : List Nat} (h : Small l) {i : Nat} (hi : i <= l.length) : val l / B ^ i = val (l.drop i) := by
 have h1 := val_lt (small_take h i)
 rw [List.length_take, Nat.min_eq_left hi] at h1
 rw [val_split hi, Nat.add_mul_div_left _ _ (Nat.pow_pos B_pos), Nat.div_eq_of_lt h1, Nat.zero_add]
theorem down_loop (K : Nat) (d : Nat) {H0 : Heap} {w v : SV} {ds : List Nat} (hw : Arr H0 w (limbs ds)) (hds : Small ds) {n m : Nat} (hn : n <= 31) (hm : m < 100000) (hK : 100000 < K) (hdm : ds.length = m) (hroot : Root v) : ∀ (j i fuel : Nat) (H : Heap) (res : List Nat), i + j = m -> j < fuel -> Small res -> res.length = i -> Frame H0 H -> Own H0.size H v (limbs (res ++ List.replicate j 0)) -> val res = val ds / 2 ^ n % B ^ i ->
  ∃ q H', slow.loop6 (f97_l1 slow K (runQ wk tab slow K (d + 1))) fuel w (i64 n) (.box [.slice nilSl]) v (i64 m) (i64 i) H = some (q, H') /\ Frame H0 H' /\ IsNat H' q (val ds / 2 ^ n)
 | 0, i, fuel, H, res, hij, hf, hrs, hrl, hfr, ho, hv => by
  obtain ⟨fuel, rfl⟩ : ∃ q, fuel = q + 1 := ⟨fuel - 1, by omega⟩
  have hlt : ¬ i < m := by omega
  have e : i = m := by omega
  subst e
  rw [List.replicate_zero, List.append_nil] at ho
  obtain ⟨sl, h1, cu⟩ := cut_ok K d H ho.arr hrs hroot (by omega) (by omega)
  have hq := cu.isNat
  have hD : val ds / 2 ^ n < B ^ i := Nat.lt_of_le_of_lt (Nat.div_le_self _ _) (by rw [<- hdm]; exact val_lt hds)
  rw [hv, Nat.mod_eq_of_lt hD] at hq
  refine ⟨.agg [sl], H, ?_, hfr, hq⟩
  rw [z_loop6]
  simp only [f97_l1, n_lss, decide_eq_false hlt, z_cond, cond_false, h1, z_call, z_bst1, z_resc1]
 | j + 1, i, fuel, H, res, hij, hf, hrs, hrl, hfr, ho, hv => by
  obtain ⟨fuel, rfl⟩ : ∃ q, fuel = q + 1 := ⟨fuel - 1, by omega⟩
  have hlt : i < m := by omega
  obtain ⟨x, hx⟩ : ∃ x, ds[i]? = some x := ⟨_, List.getElem?_eq_getElem (by omega)⟩
  have hxB : x < 4294967296 := hds x (List.mem_of_getElem? hx)
  have hdx := val_drop hx
  have step : ∀ X, X < 18446744073709551616 -> X / 2 ^ n % B = val ds / 2 ^ n / B ^ i % B -> ∃ q H', f97_j3 slow K (runQ wk tab slow K (d + 1)) (slow.loop6 (f97_l1 slow K (runQ wk tab slow K (d + 1))) fuel) w (i64 n) (.box [.slice nilSl]) v (i64 i) (u64 X) (i64 m) (i64 i) H = some (q, H') /\ Frame H0 H' /\ IsNat H' q (val ds / 2 ^ n) := fun X hX hd => by
   obtain ⟨H1, st, o1, g1, _, _⟩ := ho.store (i := i) (by simp; omega) (x := u32 (X / 2 ^ n % B)) rfl .i64
   rw [limbs_set, List.replicate_succ, set_app_mid _ _ _ _ hrl] at o1
   have hyB : X / 2 ^ n % B < B := Nat.mod_lt _ B_pos
   obtain ⟨q, H2, h2, g2⟩ := down_loop K d hw hds hn hm hK hdm hroot j (i + 1) fuel H1 (res ++ [X / 2 ^ n % B]) (by omega) (by omega) (small_app hrs (small_one hyB)) (by simp [hrl]) (Fr.trans hfr g1) o1 (by
    rw [val_append, hrl]
    simp only [val, Nat.mul_zero, Nat.add_zero]
    rw [hv, hd, mod_step])
   refine ⟨q, H2, ?_, g2⟩
   have e1 : X / 2 ^ n % 4294967296 = X / 2 ^ n % B := rfl
   have e2 : ∀ k, slow.shr (u64 X) (i64 n) k = k (u64 (X / 2 ^ n)) := fun k => n_shr k .u64 .i64 X n (by show n <= 64; omega)
   simp only [f97_j3, e2, n_conv32, e1, st, u_inc (show i < 1000000 by omega)]
   exact h2
  rw [z_loop6]
  by_cases hib : i + 1 < m
  ·obtain ⟨y, hy⟩ : ∃ y, ds[i + 1]? = some y := ⟨_, List.getElem?_eq_getElem (by omega)⟩
   have hyB : y < 4294967296 := hds y (List.mem_of_getElem? hy)
   have hdy := val_drop hy
   rw [hdy] at hdx
   obtain ⟨q, H', h1, g1⟩ := step (x + B * y) (by
    show x + 4294967296 * y < _
    omega) (down_digit hn (r := val (ds.drop (i + 1 + 1))) (by rw [val_div hds (by omega), hdx]))
   refine ⟨q, H', ?_, g1⟩
   have e3 : ∀ k, slow.shl (u64 y) (.int .u64 32) k = k (u64 (y * 4294967296)) := fun k => n_shl64 k .u64 y 32 (by decide) (by
    show y * 4294967296 < _
    omega)
   have e4 : ∀ k, slow.or (u64 x) (u64 (y * 4294967296)) k = k (u64 (x + B * y)) := fun k => by
    rw [n_or64 _ (by omega) (by omega), Nat.or_comm, or_add _ _ hxB, Nat.add_comm, Nat.mul_comm]
    rfl
   simp only [f97_l1, n_lss, decide_eq_true hlt, z_cond, cond_true, blen (hw.fr hfr), hdm, (hw.fr hfr).load (limbs_get hx), n_conv64 _ .u32 x (by omega), u_inc (show i < 1000000 by omega), decide_eq_true hib, (hw.fr hfr).load (limbs_get hy), n_conv64 _ .u32 y (by omega), e3, e4]
   exact h1
  ·have hd0 : ds.drop (i + 1) = [] := List.drop_eq_nil_iff.2 (by omega)
   rw [hd0] at hdx
   obtain ⟨q, H', h1, g1⟩ := step x (by omega) (by
    have := down_digit (D := val ds) (i := i) (x := x) (y := 0) (r := 0) hn (by rw [val_div hds (by omega), hdx]; rfl)
    simpa using this)
   refine ⟨q, H', ?_, g1⟩
   simp only [f97_l1, n_lss, decide_eq_true hlt, z_cond, cond_true, blen (hw.fr hfr), hdm, (hw.fr hfr).load (limbs_get hx), n_conv64 _ .u32 x (by omega), u_inc (show i < 1000000 by omega), decide_eq_false hib, cond_false]
   exact h1
theorem down_ok (K : Nat) (hK : 100000 < K) (d : Nat) (H : Heap) {w : SV} {ds : List Nat} (hw : Arr H w (limbs ds)) (hds : Small ds) {n : Nat} (hn : n <= 31) (hm : ds.length < 100000) :
  ∃ q H', runQ wk tab slow K (d + 2) 97 [w, i64 n] H = some (q, H') /\ Frame H H' /\ IsNat H' q (val ds / 2 ^ n) := by
 show ∃ q H', f97 slow K (runQ wk tab slow K (d + 1)) w (i64 n) H = _ /\ _
 obtain ⟨v, H1, h1, o1, g1, _, _⟩ := z_make (H := H) (lo := H.size) (Nat.le_refl _) 4 (.int .u32 0) ds.length (by omega) (roomy_small (by omega)) .i64 .i64
 rw [limbs_zeros] at o1
 obtain ⟨q, H2, h2, g2⟩ := down_loop K d hw hds hn hm hK rfl o1.root ds.length 0 K H1 [] (by omega) (by omega) (fun d hd => by cases hd) rfl g1 (by simpa using o1) (by simp [val, Nat.mod_one])
 refine ⟨q, H2, ?_, g2⟩
 simp only [f97, blen hw, h1, blen (hw.fr g1)]
 exact h2
end Go.Sh.Of
namespace Go.Sh.Of
open Go
theorem Wr.window {lo : Nat} {H : Heap} {v : SV} {r : Nat} {cs : List SV} (h : Wr lo H v r [] cs []) {j k : Nat} (hj : j + k <= cs.length) (hk : 0 < k) :
  ∃ p, (∀ kk, slow.slice111 1 v (i64 j) (i64 (j + k)) (i64 (j + k)) H kk = kk p) /\ Wr lo H p r (cs.take j) ((cs.drop j).take k) (cs.drop (j + k)) /\ ∀ H' ds, Wr lo H' p r (cs.take j) ds (cs.drop (j + k)) -> ds.length = k -> Wr lo H' v r [] (cs.take j ++ ds ++ cs.drop (j + k)) [] := by
 obtain ⟨cap, alt, ver, rfl, h1, h2⟩ := h
 simp only [List.nil_append, List.append_nil] at h2
 have hfit : fitsCap H 1 ⟨some (r, 0), cs.length, cap, alt⟩ ((j + k : Nat) : Int) = true := by
  unfold fitsCap
  rw [decide_eq_true (by show ((j + k : Nat) : Int) <= (cs.length : Int); omega)]
  rfl
 have hcut : cs.take j ++ ((cs.drop j).take k ++ cs.drop (j + k)) = cs := by
  rw [<- List.drop_drop, List.take_append_drop, List.take_append_drop]
 have hop : ∀ kk, slow.slice111 1 (.slice ⟨some (r, ([] : List SV).length), cs.length, cap, alt⟩) (i64 j) (i64 (j + k)) (i64 (j + k)) H kk = kk (.slice (subSl 1 ⟨some (r, 0), cs.length, cap, alt⟩ j k (some k))) := fun kk => by
  show (opR (.slice 1 true true true) [.slice _, i64 j, i64 (j + k), i64 (j + k)] H).bind kk = _
  simp only [opR, sliceOp, loOf]
  rw [if_pos ⟨by omega, by omega, by omega, hfit, .inl (by omega)⟩, Option.bind_some]
  have e1 : (((j + k : Nat) : Int) - (j : Int)).toNat = k := by omega
  rw [e1, Int.toNat_natCast]
  rfl
 refine ⟨_, hop, ?_, fun H' ds hd hl => ?_⟩
 ·have hlen : ((cs.drop j).take k).length = k := by simp; omega
  cases j with
  | zero => exact ⟨some k, alt, ver, by rw [hlen]; rfl, h1, by rw [hcut]; exact h2⟩
  | succ j =>
   refine ⟨some k, 0, ver, ?_, h1, by rw [hcut]; exact h2⟩
   rw [hlen, List.length_take, Nat.min_eq_left (by omega)]
   simp [subSl]
 ·obtain ⟨cap', alt', ver', _, g1, g2⟩ := hd
  refine ⟨cap, alt, ver', ?_, g1, ?_⟩
  ·have : (cs.take j ++ ds ++ cs.drop (j + k)).length = cs.length := by simp; omega
   rw [this]
  ·rw [g2, List.nil_append, List.append_nil, List.append_assoc]
theorem away_loop (K : Nat) (d : Nat) (lo : Nat) {H0 : Heap} {p w : SV} {ps vs : List Nat} (hw : Arr H0 w (limbs vs)) (hlo : lo = H0.size) (hvs : Small vs) (hps : Small ps) {m dd : Nat} (hm : m < 100000) (hpm : ps.length = m) (hvm : vs.length < m) (hdd : dd < B) {r : Nat} {pre post : List SV} {Hs : Heap} : ∀ (j i fuel : Nat) (c bw : Nat) (H : Heap) (res : List Nat), i + j = m -> j < fuel -> c < B -> bw <= 1 -> (vs.length < i -> c = 0) -> Small res -> res.length = i -> Frame H0 H -> H.size = Hs.size -> (∀ r', r' ≠ r -> H.get r' = Hs.get r') -> Wr lo H p r pre (limbs (res ++ ps.drop i)) post -> val res + dd * val (vs.take i) = val (ps.take i) + B ^ i * (c + bw) ->
  ∃ H' res' bw', slow.loop7 (f96_l1 slow K (runQ wk tab slow K (d + 1))) fuel p w (u32 dd) (u64 c) (u32 bw) (i64 m) (i64 i) H = some (.bool (decide (bw' ≠ 0)), H') /\ Frame H0 H' /\ H'.size = Hs.size /\ (∀ r', r' ≠ r -> H'.get r' = Hs.get r') /\ Wr lo H' p r pre (limbs res') post /\ Small res' /\ res'.length = m /\ bw' <= 1 /\ val res' + dd * val vs = val ps + B ^ m * bw'
 | 0, i, fuel, c, bw, H, res, hij, hf, hc, hbw, hc0, hrs, hrl, hfr, hsz, hkeep, hwr, hv => by
  obtain ⟨fuel, rfl⟩ : ∃ q, fuel = q + 1 := ⟨fuel - 1, by omega⟩
  have e : i = m := by omega
  subst e
  have hlt : ¬ i < i := Nat.lt_irrefl i
  rw [hc0 hvm, Nat.zero_add, List.take_of_length_le (by omega), List.take_of_length_le (by omega)] at hv
  rw [List.drop_eq_nil_iff.2 (by omega), List.append_nil] at hwr
  refine ⟨H, res, bw, ?_, hfr, hsz, hkeep, hwr, hrs, hrl, hbw, hv⟩
  rw [z_loop7]
  simp only [f96_l1, n_lss, decide_eq_false hlt, z_cond, cond_false]
  rw [show (SV.int .u32 0) = u32 0 from rfl, n_neq, z_rest_bool]
 | j + 1, i, fuel, c, bw, H, res, hij, hf, hc, hbw, hc0, hrs, hrl, hfr, hsz, hkeep, hwr, hv => by
  obtain ⟨fuel, rfl⟩ : ∃ q, fuel = q + 1 := ⟨fuel - 1, by omega⟩
  have hlt : i < m := by omega
  obtain ⟨x, hx⟩ : ∃ x, ps[i]? = some x := ⟨_, List.getElem?_eq_getElem (by omega)⟩
  have hxB : x < 4294967296 := hps x (List.mem_of_getElem? hx)
  have hdx : ps.drop i = x :: ps.drop (i + 1) := List.drop_eq_getElem?_toList_append (l := ps) (i := i) ▸ by rw [hx]; rfl
  have hget : (limbs (res ++ ps.drop i))[i]? = some (u32 x) := limbs_get (by rw [hdx]; exact get_app_mid _ _ _ hrl)
  have step : ∀ y, y < 18446744073709551616 -> (vs.length < i + 1 -> y / B = 0) -> val res + dd * val (vs.take (i + 1)) = val (ps.take i) + B ^ i * (y + bw) -> ∃ H' res' bw', f96_j3 slow K (runQ wk tab slow K (d + 1)) (slow.loop7 (f96_l1 slow K (runQ wk tab slow K (d + 1))) fuel) p w (u32 dd) (u64 y) (u32 bw) (i64 i) (i64 m) (i64 i) H = some (.bool (decide (bw' ≠ 0)), H') /\ Frame H0 H' /\ H'.size = Hs.size /\ (∀ r', r' ≠ r -> H'.get r' = Hs.get r') /\ Wr lo H' p r pre (limbs res') post /\ Small res' /\ res'.length = m /\ bw' <= 1 /\ val res' + dd * val vs = val ps + B ^ m * bw' := fun y hy hy0 hval => by
   have hyB : y % B < 4294967296 := Nat.mod_lt _ B_pos
   have hyD : y / B < B := Nat.div_lt_of_lt_mul hy
   obtain ⟨z, b', hzz, hcc, hz, hb', hbor⟩ := borrow_eq hxB hyB hbw
   obtain ⟨H1, st, w1, g1, sz1, rr1⟩ := hwr.store (i := i) (by rw [hdx]; simp; omega) (x := u32 z) rfl .i64
   rw [hdx, limbs_set, set_app_mid _ _ _ _ hrl] at w1
   obtain ⟨H2, res', bw', h2, g2⟩ := away_loop K d lo hw hlo hvs hps hm hpm hvm hdd j (i + 1) fuel (y / B) b' H1 (res ++ [z]) (by omega) (by omega) hyD hb' hy0 (small_app hrs (small_one hz)) (by simp [hrl]) (Fr.trans hfr (by rw [<- hlo]; exact g1)) (sz1.trans hsz) (fun r' hr' => (rr1 r' hr').trans (hkeep r' hr')) w1 (by
    rw [val_append, hrl, val_take hx]
    simp only [val, Nat.mul_zero, Nat.add_zero]
    have hym := Nat.mod_add_div y B
    generalize val (vs.take (i + 1)) = a at *
    generalize val (ps.take i) = b at *
    generalize y / B = t at *
    rw [Nat.pow_succ, Nat.mul_assoc]
    generalize B ^ i = P at *
    have e1 : P * (z + y % B + bw) = P * (x + B * b') := by rw [hbor]
    have e2 : P * (y % B + B * t) = P * y := by rw [hym]
    simp only [Nat.mul_add] at hval e1 e2 ⊢
    omega)
   refine ⟨H2, res', bw', ?_, g2⟩
   have e1 : y % 4294967296 = y % B := rfl
   have e2 : ∀ k, slow.shr (u64 y) (.int .u64 32) k = k (u64 (y / B)) := fun k => n_shr k .u64 .u64 y 32 (by decide)
   unfold f96_j3
   rw [hwr.arr.load hget, n_conv32, e1, sub32_ok K d H hxB hyB hbw, hzz, hcc, z_call, z_ext0, z_ext1, st, e2, u_inc (by omega)]
   exact h2
  rw [z_loop7]
  by_cases hib : i < vs.length
  ·obtain ⟨y, hy⟩ : ∃ y, vs[i]? = some y := ⟨_, List.getElem?_eq_getElem hib⟩
   have hyB : y < 4294967296 := hvs y (List.mem_of_getElem? hy)
   have hdd' : dd < 4294967296 := hdd
   have hc' : c < 4294967296 := hc
   have hb : y * dd <= 4294967295 * 4294967295 := Nat.mul_le_mul (by omega) (by omega)
   obtain ⟨H', res', bw', h1, g1⟩ := step (c + y * dd) (by omega) (fun h => by omega) (by
    rw [val_take hy, Nat.mul_add, <- Nat.add_assoc, hv, Nat.mul_left_comm dd, Nat.mul_comm dd y]
    simp only [Nat.mul_add]
    generalize B ^ i * (y * dd) = a at *
    generalize B ^ i * c = b at *
    generalize B ^ i * bw = e at *
    omega)
   refine ⟨H', res', bw', ?_, g1⟩
   simp only [f96_l1, n_lss, decide_eq_true hlt, z_cond, cond_true, blen (hw.fr hfr), decide_eq_true hib, (hw.fr hfr).load (limbs_get hy), n_conv64 _ .u32 y (by omega), n_conv64 _ .u32 dd (by omega)]
   rw [n_mul64 _ (by omega), n_add64 _ (by omega)]
   exact h1
  ·have e5 : vs.take (i + 1) = vs.take i := by rw [List.take_of_length_le (by omega), List.take_of_length_le (by omega)]
   have hc' : c < 4294967296 := hc
   obtain ⟨H', res', bw', h1, g1⟩ := step c (by omega) (fun h => Nat.div_eq_of_lt hc) (by rw [e5]; exact hv)
   refine ⟨H', res', bw', ?_, g1⟩
   simp only [f96_l1, n_lss, decide_eq_true hlt, z_cond, cond_true, blen (hw.fr hfr), decide_eq_false hib, cond_false]
   exact h1
theorem away_ok (K : Nat) (hK : 100000 < K) (d : Nat) (lo : Nat) {H0 H : Heap} {p w : SV} {ps vs : List Nat} (hw : Arr H0 w (limbs vs)) (hlo : lo = H0.size) (hfr : Frame H0 H) (hvs : Small vs) (hps : Small ps) {dd : Nat} (hm : ps.length < 100000) (hvm : vs.length < ps.length) (hdd : dd < B) {r : Nat} {pre post : List SV} (hwr : Wr lo H p r pre (limbs ps) post) :
  ∃ H' res bw, runQ wk tab slow K (d + 2) 96 [p, w, u32 dd] H = some (.bool (decide (bw ≠ 0)), H') /\ Frame H0 H' /\ H'.size = H.size /\ (∀ r', r' ≠ r -> H'.get r' = H.get r') /\ Wr lo H' p r pre (limbs res) post /\ Small res /\ res.length = ps.length /\ bw <= 1 /\ val res + dd * val vs = val ps + B ^ ps.length * bw := by
 show ∃ H' res bw, f96 slow K (runQ wk tab slow K (d + 1)) p w (u32 dd) H = _ /\ _
 obtain ⟨H', res, bw, h1, g1⟩ := away_loop K d lo hw hlo hvs hps hm rfl hvm hdd (Hs := H) ps.length 0 K 0 0 H [] (by omega) (by omega) B_pos (by omega) (fun _ => rfl) (fun d hd => by cases hd) rfl hfr rfl (fun _ _ => rfl) (by simpa using hwr) (by simp [val])
 refine ⟨H', res, bw, ?_, g1⟩
 simp only [f96, blen hwr.arr]
 exact h1
end Go.Sh.Of
namespace Go.Sh.Of
open Go
theorem guess_loop (K : Nat) (C : CallC) (k42 : SV -> SV -> SV -> SV -> SV -> SV -> SV -> SV -> Heap -> Rs) {H : Heap} {qb rb sh w u out : SV} {vs us : List Nat} {n j x u0 u1 u2 ur v1 v2 vr W P V q : Nat} (hw : Arr H w (limbs vs)) (hu : Arr H u (limbs us)) (hn : 2 <= n) (hn' : n < 100000) (hj : j < 100000) (hv1 : vs[n - 1]? = some v1) (hv2 : vs[n - 2]? = some v2) (hu2 : us[j + n - 2]? = some u2) (E : Est x u2 ur v1 v2 vr W P V q) (hnorm : B <= v1 + v1) (hv1B : v1 < B) (hx : x = u0 * B + u1) (hu1 : u1 < B) (hu0 : u0 <= v1) : ∀ (m fuel dd rr : Nat), m < fuel -> B <= rr + m * v1 -> rr < B -> q <= dd -> dd < B + 1 + 1 -> dd * v1 + rr = x ->
  ∃ d', slow.loop10 (f78_l3 slow K C k42) fuel qb rb (i64 n) sh w u out (i64 j) (u64 dd) (u64 rr) H = f78_j6 slow K C k42 qb rb (i64 n) sh w u out (i64 j) (u64 d') H /\ d' < B /\ q <= d' /\ d' <= q + 1
 | 0, fuel, dd, rr, hf, hm, hrr, hq, hdd, hdx => by omega
 | m + 1, fuel, dd, rr, hf, hm, hrr, hq, hdd, hdx => by
  obtain ⟨fuel, rfl⟩ : ∃ q, fuel = q + 1 := ⟨fuel - 1, by omega⟩
  have hv2B : v2 < 4294967296 := E.v2
  have hv1B' : v1 < 4294967296 := hv1B
  have hrr' : rr < 4294967296 := hrr
  have hu2B : u2 < 4294967296 := E.u2
  have hddB : dd < 4294967296 + 1 + 1 := hdd
  have es1 : ∀ k, slow.sub (i64 n) (.int .i64 1) k = k (i64 (n - 1)) := fun k => n_subi k (b := 1) (by omega) (by omega)
  have es2 : ∀ k, slow.sub (i64 n) (.int .i64 2) k = k (i64 (n - 2)) := fun k => n_subi k (b := 2) (by omega) (by omega)
  have ea : ∀ k, slow.add (i64 j) (i64 n) k = k (i64 (j + n)) := fun k => n_addi k (by omega)
  have es3 : ∀ k, slow.sub (i64 (j + n)) (.int .i64 2) k = k (i64 (j + n - 2)) := fun k => n_subi k (b := 2) (by omega) (by omega)
  have esh : ∀ k, slow.shr (u64 dd) (.int .u64 32) k = k (u64 (dd / 4294967296)) := fun k => n_shr k .u64 .u64 dd 32 (by decide)
  have hne : ∀ k, slow.neq (u64 (dd / 4294967296)) (.int .u64 0) k = k (.bool (decide (dd / 4294967296 ≠ 0))) := fun k => n_neq k .u64 _ 0
  have less : q < dd -> ∃ d', f78_j4 slow K C k42 (slow.loop10 (f78_l3 slow K C k42) fuel) qb rb (i64 n) sh w u out (i64 j) (u64 dd) (u64 rr) (.bool true) H = f78_j6 slow K C k42 qb rb (i64 n) sh w u out (i64 j) (u64 d') H /\ d' < B /\ q <= d' /\ d' <= q + 1 := fun hlt => by
   have hdx2 : (dd - 1) * v1 + (rr + v1) = x := by
    rw [<- hdx]
    obtain ⟨e, rfl⟩ : ∃ e, dd = e + 1 := ⟨dd - 1, by omega⟩
    rw [Nat.add_sub_cancel, Nat.add_mul, Nat.one_mul]
    generalize e * v1 = a
    omega
   have e1 : ∀ k, slow.sub (u64 dd) (.int .u64 1) k = k (u64 (dd - 1)) := fun k => n_sub64 k (b := 1) (by omega) (by omega)
   have e2 : ∀ k, slow.add (u64 rr) (u64 v1) k = k (u64 (rr + v1)) := fun k => n_add64 k (by omega)
   have e3 : ∀ k, slow.shr (u64 (rr + v1)) (.int .u64 32) k = k (u64 ((rr + v1) / 4294967296)) := fun k => n_shr k .u64 .u64 _ 32 (by decide)
   have e4 : ∀ k, slow.neq (u64 ((rr + v1) / 4294967296)) (.int .u64 0) k = k (.bool (decide ((rr + v1) / 4294967296 ≠ 0))) := fun k => n_neq k .u64 _ 0
   by_cases hb : (rr + v1) / 4294967296 ≠ 0
   ·have hge : B <= rr + v1 := by
     show 4294967296 <= _
     omega
    obtain ⟨a1, a2⟩ := est_break (u2 := u2) hdx2 hx hu1 hu0 E.v1 E.v2 hge
    refine ⟨dd - 1, ?_, a1, by omega, est_end E hdx2 a1 a2⟩
    simp only [f78_j4, z_cond, cond_true, e1, es1, hw.load (limbs_get hv1), n_conv64 _ .u32 v1 (by omega), e2, e3, e4, decide_eq_true hb]
   ·have hlt2 : rr + v1 < B := by
     show _ < 4294967296
     omega
    obtain ⟨d', h1, g1⟩ := guess_loop K C k42 (qb := qb) (rb := rb) (sh := sh) (out := out) hw hu hn hn' hj hv1 hv2 hu2 E hnorm hv1B hx hu1 hu0 m fuel (dd - 1) (rr + v1) (by omega) (by
     rw [Nat.add_mul, Nat.one_mul] at hm
     generalize m * v1 = a at *
     omega) hlt2 (by omega) (by omega) hdx2
    refine ⟨d', ?_, g1⟩
    simp only [f78_j4, z_cond, cond_true, e1, es1, hw.load (limbs_get hv1), n_conv64 _ .u32 v1 (by omega), e2, e3, e4, decide_eq_false hb, cond_false]
    exact h1
  rw [z_loop10]
  by_cases hbig : dd / 4294967296 ≠ 0
  ·have hB : B <= dd := by
    show 4294967296 <= dd
    omega
   have := E.qB
   obtain ⟨d', h1, g1⟩ := less (by omega)
   refine ⟨d', ?_, g1⟩
   simp only [f78_l3, esh, hne, decide_eq_true hbig, z_guard, cond_true]
   exact h1
  ·have hB : dd < 4294967296 := by omega
   have hb1 : dd * v2 <= 4294967295 * 4294967295 := Nat.mul_le_mul (by omega) (by omega)
   have e5 : ∀ k, slow.mul (u64 dd) (u64 v2) k = k (u64 (dd * v2)) := fun k => n_mul64 k (by omega)
   have e6 : ∀ k, slow.shl (u64 rr) (.int .u64 32) k = k (u64 (rr * 4294967296)) := fun k => n_shl64 k .u64 rr 32 (by decide) (by
    show rr * 4294967296 < _
    omega)
   have e7 : ∀ k, slow.or (u64 (rr * 4294967296)) (u64 u2) k = k (u64 (rr * 4294967296 + u2)) := fun k => by rw [n_or64 _ (by omega) (by omega), or_add _ _ hu2B]
   by_cases ht : dd * v2 > rr * 4294967296 + u2
   ·obtain ⟨d', h1, g1⟩ := less (est_over E hdx ht)
    refine ⟨d', ?_, g1⟩
    simp only [f78_l3, esh, hne, decide_eq_false hbig, z_guard, cond_false, es2, hw.load (limbs_get hv2), n_conv64 _ .u32 v2 (by omega), e5, e6, ea, es3, hu.load (limbs_get hu2), n_conv64 _ .u32 u2 (by omega), e7, n_gtr, decide_eq_true ht]
    exact h1
   ·refine ⟨dd, ?_, hB, hq, est_end E hdx hB (by
     show dd * v2 <= rr * 4294967296 + u2
     omega)⟩
    simp only [f78_l3, esh, hne, decide_eq_false hbig, z_guard, cond_false, es2, hw.load (limbs_get hv2), n_conv64 _ .u32 v2 (by omega), e5, e6, ea, es3, hu.load (limbs_get hu2), n_conv64 _ .u32 u2 (by omega), e7, n_gtr, decide_eq_false ht, f78_j4, z_cond]
theorem back_loop (K : Nat) (C : CallC) (k42 : SV -> SV -> SV -> SV -> SV -> SV -> SV -> SV -> Heap -> Rs) (lo : Nat) {H0 : Heap} {qb rb sh w u out jv p : SV} {vs ps : List Nat} (hw : Arr H0 w (limbs vs)) (hlo : lo = H0.size) (hvs : Small vs) (hps : Small ps) {m : Nat} (hm : m < 100000) (hpm : ps.length = m) (hvm : vs.length < m) {r : Nat} {pre post : List SV} {Hs : Heap} : ∀ (j i fuel : Nat) (c : Nat) (H : Heap) (res : List Nat), i + j = m -> j < fuel -> c <= 1 -> Small res -> res.length = i -> Frame H0 H -> H.size = Hs.size -> (∀ r', r' ≠ r -> H.get r' = Hs.get r') -> Wr lo H p r pre (limbs (res ++ ps.drop i)) post -> val res + B ^ i * c = val (ps.take i) + val (vs.take i) ->
  ∃ H' res' c', slow.loop12 (f78_l9 slow K C k42) fuel qb rb (i64 vs.length) sh w u out jv p (u64 c) (i64 m) (i64 i) H = f78_j7 slow K C k42 qb rb (i64 vs.length) sh w u out jv H' /\ Frame H0 H' /\ H'.size = Hs.size /\ (∀ r', r' ≠ r -> H'.get r' = Hs.get r') /\ Wr lo H' p r pre (limbs res') post /\ Small res' /\ res'.length = m /\ c' <= 1 /\ val res' + B ^ m * c' = val ps + val vs
 | 0, i, fuel, c, H, res, hij, hf, hc, hrs, hrl, hfr, hsz, hkeep, hwr, hv => by
  obtain ⟨fuel, rfl⟩ : ∃ q, fuel = q + 1 := ⟨fuel - 1, by omega⟩
  have e : i = m := by omega
  subst e
  have hlt : ¬ i < i := Nat.lt_irrefl i
  rw [List.take_of_length_le (by omega), List.take_of_length_le (by omega)] at hv
  rw [List.drop_eq_nil_iff.2 (by omega), List.append_nil] at hwr
  refine ⟨H, res, c, ?_, hfr, hsz, hkeep, hwr, hrs, hrl, hc, hv⟩
  rw [z_loop12]
  simp only [f78_l9, n_lss, decide_eq_false hlt, z_cond, cond_false]
 | j + 1, i, fuel, c, H, res, hij, hf, hc, hrs, hrl, hfr, hsz, hkeep, hwr, hv => by
  obtain ⟨fuel, rfl⟩ : ∃ q, fuel = q + 1 := ⟨fuel - 1, by omega⟩
  have hlt : i < m := by omega
  obtain ⟨x, hx⟩ : ∃ x, ps[i]? = some x := ⟨_, List.getElem?_eq_getElem (by omega)⟩
  have hxB : x < 4294967296 := hps x (List.mem_of_getElem? hx)
  have hdx : ps.drop i = x :: ps.drop (i + 1) := List.drop_eq_getElem?_toList_append (l := ps) (i := i) ▸ by rw [hx]; rfl
  have hget : (limbs (res ++ ps.drop i))[i]? = some (u32 x) := limbs_get (by rw [hdx]; exact get_app_mid _ _ _ hrl)
  have step : ∀ y, y < 8589934592 -> val res + B ^ i * y = val (ps.take (i + 1)) + val (vs.take (i + 1)) -> ∃ H' res' c', f78_j11 slow K C (slow.loop12 (f78_l9 slow K C k42) fuel) qb rb (i64 vs.length) sh w u out jv p (u64 y) (i64 i) (i64 m) (i64 i) H = f78_j7 slow K C k42 qb rb (i64 vs.length) sh w u out jv H' /\ Frame H0 H' /\ H'.size = Hs.size /\ (∀ r', r' ≠ r -> H'.get r' = Hs.get r') /\ Wr lo H' p r pre (limbs res') post /\ Small res' /\ res'.length = m /\ c' <= 1 /\ val res' + B ^ m * c' = val ps + val vs := fun y hy hval => by
   have hyB : y % B < B := Nat.mod_lt _ B_pos
   have hyD : y / B <= 1 := by
    show y / 4294967296 <= 1
    omega
   obtain ⟨H1, st, w1, g1, sz1, rr1⟩ := hwr.store (i := i) (by rw [hdx]; simp; omega) (x := u32 (y % B)) rfl .i64
   rw [hdx, limbs_set, set_app_mid _ _ _ _ hrl] at w1
   obtain ⟨H2, res', c', h2, g2⟩ := back_loop K C k42 lo (qb := qb) (rb := rb) (sh := sh) (u := u) (out := out) (jv := jv) hw hlo hvs hps hm hpm hvm j (i + 1) fuel (y / B) H1 (res ++ [y % B]) (by omega) (by omega) hyD (small_app hrs (small_one hyB)) (by simp [hrl]) (Fr.trans hfr (by rw [<- hlo]; exact g1)) (sz1.trans hsz) (fun r' hr' => (rr1 r' hr').trans (hkeep r' hr')) w1 (by
    rw [val_append, hrl, <- hval]
    simp only [val, Nat.mul_zero, Nat.add_zero]
    rw [Nat.pow_succ, Nat.mul_assoc, Nat.add_assoc, <- Nat.mul_add, Nat.mod_add_div])
   refine ⟨H2, res', c', ?_, g2⟩
   have e1 : y % 4294967296 = y % B := rfl
   have e2 : ∀ k, slow.shr (u64 y) (.int .u64 32) k = k (u64 (y / B)) := fun k => n_shr k .u64 .u64 y 32 (by decide)
   simp only [f78_j11, n_conv32, e1, st, e2, u_inc (show i < 1000000 by omega)]
   exact h2
  rw [z_loop12]
  by_cases hib : i < vs.length
  ·obtain ⟨y, hy⟩ : ∃ y, vs[i]? = some y := ⟨_, List.getElem?_eq_getElem hib⟩
   have hyB : y < 4294967296 := hvs y (List.mem_of_getElem? hy)
   obtain ⟨H', res', c', h1, g1⟩ := step (c + x + y) (by omega) (by
    rw [val_take hx, val_take hy, Nat.mul_add, Nat.mul_add]
    generalize B ^ i * c = a at *
    generalize B ^ i * x = b at *
    generalize B ^ i * y = e at *
    omega)
   refine ⟨H', res', c', ?_, g1⟩
   simp only [f78_l9, n_lss, decide_eq_true hlt, z_cond, cond_true, hwr.arr.load hget, n_conv64 _ .u32 x (by omega), decide_eq_true hib, (hw.fr hfr).load (limbs_get hy), n_conv64 _ .u32 y (by omega)]
   rw [n_add64 _ (by omega)]
   simp only [n_add64 _ (show c + x + y < 18446744073709551616 by omega)]
   exact h1
  ·have e5 : vs.take (i + 1) = vs.take i := by rw [List.take_of_length_le (by omega), List.take_of_length_le (by omega)]
   obtain ⟨H', res', c', h1, g1⟩ := step (c + x) (by omega) (by
    rw [e5, val_take hx, Nat.mul_add]
    generalize B ^ i * c = a at *
    generalize B ^ i * x = b at *
    omega)
   refine ⟨H', res', c', ?_, g1⟩
   simp only [f78_l9, n_lss, decide_eq_true hlt, z_cond, cond_true, hwr.arr.load hget, n_conv64 _ .u32 x (by omega), n_add64 _ (show c + x < 18446744073709551616 by omega), decide_eq_false hib, cond_false]
   exact h1
end Go.Sh.Of
namespace Go.Sh.Of
open Go
theorem Own.ge2 {lo : Nat} {H : Heap} {v : SV} {cs : List SV} (h : Own lo H v cs) {r : Nat} (hr : inRow v r) : lo <= r := by
 obtain ⟨base, rfl, h⟩ := h
 obtain ⟨s, o, e, h4⟩ := hr
 cases e
 rcases h with ⟨rfl, _⟩ | ⟨r', ver, rfl, h2, h3⟩
 ·cases h4
 ·cases h4; exact h2
theorem val_top2 {l : List Nat} {n a b : Nat} (hl : l.length = n) (hn : 2 <= n) (ha : l[n - 1]? = some a) (hb : l[n - 2]? = some b) : val l = (a * B + b) * B ^ (n - 2) + val (l.take (n - 2)) := by
 rw [val_split (l := l) (i := n - 2) (by omega), val_drop hb, show n - 2 + 1 = n - 1 by omega, val_drop ha, show n - 1 + 1 = n by omega, List.drop_eq_nil_iff.2 (by omega)]
 simp only [val, Nat.mul_zero, Nat.add_zero]
 rw [Nat.add_comm (val _), Nat.mul_comm (B ^ (n - 2)), Nat.add_comm b, Nat.mul_comm B a]
theorem val_top3 {l : List Nat} {n a b c : Nat} (hl : l.length = n + 1) (hn : 2 <= n) (ha : l[n]? = some a) (hb : l[n - 1]? = some b) (hc : l[n - 2]? = some c) : val l = ((a * B + b) * B + c) * B ^ (n - 2) + val (l.take (n - 2)) := by
 rw [val_split (l := l) (i := n - 2) (by omega), val_drop hc, show n - 2 + 1 = n - 1 by omega, val_drop hb, show n - 1 + 1 = n by omega, val_drop ha, List.drop_eq_nil_iff.2 (by omega)]
 simp only [val, Nat.mul_zero, Nat.add_zero]
 rw [Nat.add_comm (val _), Nat.mul_comm (B ^ (n - 2)), Nat.add_comm c, Nat.mul_comm B (b + B * a), Nat.add_comm b, Nat.mul_comm B a]
theorem top_le {x u0 u1 u2 ur v1 v2 vr W P V : Nat} (hP : P = (x * B + u2) * W + ur) (hV : V = (v1 * B + v2) * W + vr) (hx : x = u0 * B + u1) (hv2 : v2 < B) (hvr : vr < W) (hlt : P < V * B) : u0 <= v1 := by
 refine Decidable.byContradiction fun hn => ?_
 have h1 : v1 + 1 <= u0 := by omega
 have h2 : (v1 + 1) * (B * B * W) <= u0 * (B * B * W) := Nat.mul_le_mul_right _ h1
 have h3 : (v2 + 1) * W <= B * W := Nat.mul_le_mul_right _ hv2
 have h4 : V < (v1 + 1) * (B * W) := by
  rw [hV]
  simp only [Nat.add_mul, Nat.one_mul, Nat.mul_assoc] at h3 ⊢
  generalize v1 * (B * W) = a at *
  generalize v2 * W = b at *
  generalize B * W = c at *
  omega
 have h5 : V * B < (v1 + 1) * (B * W) * B := Nat.mul_lt_mul_of_pos_right h4 B_pos
 have h6 : (v1 + 1) * (B * W) * B = (v1 + 1) * (B * B * W) := by
  rw [Nat.mul_assoc, Nat.mul_right_comm B W B]
 have h7 : u0 * (B * B * W) <= P := by
  rw [hP, hx]
  simp only [Nat.add_mul, Nat.mul_assoc]
  generalize u0 * (B * (B * W)) = a
  omega
 omega
theorem long_loop (K : Nat) (hK : 200000 < K) (d : Nat) {H0 : Heap} {w u out : SV} {vs : List Nat} {n m sh v1 v2 r lo2 U0 : Nat} (hw : Arr H0 w (limbs vs)) (hvs : Small vs) (hnl : vs.length = n) (hn : 2 <= n) (hn' : n < 40000) (hm : m < 40000) (hsh : sh <= 31) (hv1 : vs[n - 1]? = some v1) (hv2 : vs[n - 2]? = some v2) (hnorm : B <= v1 + v1) (hr : r < lo2) (hlo2 : H0.size <= lo2) : ∀ (jn fuel : Nat) (H : Heap) (us outs : List Nat), jn <= m -> jn < fuel -> Frame H0 H -> us.length = m + n -> Small us -> Wr H0.size H u r [] (limbs us) [] -> Own lo2 H out (limbs outs) -> outs.length = m -> Small outs -> (∀ i, i < jn -> outs[i]? = some 0) -> val (us.drop jn) < val vs -> val us + val vs * val outs = U0 ->
  ∃ q rr H', slow.loop8 (f78_l1 slow K (runQ wk tab slow K (d + 2))) fuel (.box [.slice nilSl]) (.box [.slice nilSl]) (i64 n) (i64 sh) w u out (.int .i64 ((jn : Int) - 1)) H = some (.tuple [q, rr], H') /\ Frame H0 H' /\ IsNat H' q (U0 / val vs) /\ IsNat H' rr (U0 % val vs / 2 ^ sh)
 | 0, fuel, H, us, outs, hjm, hf, hfr, hul, hus, hwr, ho, hol, hos, hz, hlt, hU => by
  obtain ⟨fuel, rfl⟩ : ∃ q, fuel = q + 1 := ⟨fuel - 1, by omega⟩
  have hneg : ¬ (((0 : Nat) : Int) - 1 >= 0) := by omega
  rw [List.drop_zero] at hlt
  have hV : 0 < val vs := by omega
  obtain ⟨sl, h1, cu⟩ := cut_ok K (d + 1) H ho.arr hos ho.root (by omega) (by omega)
  rw [show d + 1 + 1 = d + 2 from rfl] at h1
  obtain ⟨rr, H1, h2, g2, n2⟩ := down_ok K (by omega) d H hwr.arr hus hsh (by omega)
  have hq : val outs = U0 / val vs := by
   rw [<- hU, Nat.add_mul_div_left _ _ hV, Nat.div_eq_of_lt hlt, Nat.zero_add]
  have hrem : val us = U0 % val vs := by
   rw [<- hU, Nat.add_mul_mod_self_left, Nat.mod_eq_of_lt hlt]
  have n1 := cu.isNat
  rw [hq] at n1
  rw [hrem] at n2
  have n2' := n2
  obtain ⟨y, rfl, _, _⟩ := n2
  refine ⟨.agg [sl], .agg [y], H1, ?_, Frame.trans hfr g2, n1.fr g2, n2'⟩
  rw [z_loop8]
  simp only [f78_l1, z_geq, decide_eq_false hneg, z_cond, cond_false, h1, z_call, h2, z_bst1, z_resc1]
 | j + 1, fuel, H, us, outs, hjm, hf, hfr, hul, hus, hwr, ho, hol, hos, hz, hlt, hU => by
  obtain ⟨fuel, rfl⟩ : ∃ q, fuel = q + 1 := ⟨fuel - 1, by omega⟩
  have hpos : ((j + 1 : Nat) : Int) - 1 >= 0 := by omega
  have ej : ((j + 1 : Nat) : Int) - 1 = (j : Int) := by omega
  have hV0 : 0 < val vs := by omega
  have hVB : val vs < B ^ n := by rw [<- hnl]; exact val_lt hvs
  obtain ⟨u0, hu0⟩ : ∃ x, us[j + n]? = some x := ⟨_, List.getElem?_eq_getElem (by omega)⟩
  obtain ⟨u1, hu1⟩ : ∃ x, us[j + n - 1]? = some x := ⟨_, List.getElem?_eq_getElem (by omega)⟩
  obtain ⟨u2, hu2⟩ : ∃ x, us[j + n - 2]? = some x := ⟨_, List.getElem?_eq_getElem (by omega)⟩
  obtain ⟨uj, huj⟩ : ∃ x, us[j]? = some x := ⟨_, List.getElem?_eq_getElem (by omega)⟩
  have hu0B : u0 < 4294967296 := hus u0 (List.mem_of_getElem? hu0)
  have hu1B : u1 < 4294967296 := hus u1 (List.mem_of_getElem? hu1)
  have hu2B : u2 < 4294967296 := hus u2 (List.mem_of_getElem? hu2)
  have hujB : uj < B := hus uj (List.mem_of_getElem? huj)
  have hv1B : v1 < 4294967296 := hvs v1 (List.mem_of_getElem? hv1)
  have hv2B : v2 < B := hvs v2 (List.mem_of_getElem? hv2)
  obtain ⟨ps, hps⟩ : ∃ ps, ps = (us.drop j).take (n + 1) := ⟨_, rfl⟩
  have hpsl : ps.length = n + 1 := by rw [hps]; simp; omega
  have hpsS : Small ps := by rw [hps]; exact small_take (small_drop hus j) _
  have hPlt : val (us.drop j) < val vs * B := by
   rw [val_drop huj]
   have : B * (val (us.drop (j + 1)) + 1) <= B * val vs := Nat.mul_le_mul_left _ hlt
   rw [Nat.mul_add, Nat.mul_one, Nat.mul_comm B (val vs)] at this
   omega
  have hsp : val (us.drop j) = val ps + B ^ (n + 1) * val (us.drop (j + (n + 1))) := by
   rw [hps, val_split (l := us.drop j) (i := n + 1) (by simp; omega), List.drop_drop]
  have hhi : val (us.drop (j + (n + 1))) = 0 := by
   rcases Nat.eq_zero_or_pos (val (us.drop (j + (n + 1)))) with h | h
   ·exact h
   ·have h1 : B ^ (n + 1) * 1 <= B ^ (n + 1) * val (us.drop (j + (n + 1))) := Nat.mul_le_mul_left _ h
    have h2 : val vs * B <= B ^ (n + 1) := by
     rw [Nat.pow_succ]
     exact Nat.mul_le_mul_right _ (Nat.le_of_lt hVB)
    omega
  rw [hhi, Nat.mul_zero, Nat.add_zero] at hsp
  rw [hsp] at hPlt
  have gp : ∀ i, i < n + 1 -> ps[i]? = us[j + i]? := fun i hi => by
   rw [hps, List.getElem?_take, if_pos hi, List.getElem?_drop]
  have hp0 : ps[n]? = some u0 := by rw [gp n (by omega)]; exact hu0
  have hp1 : ps[n - 1]? = some u1 := by rw [gp (n - 1) (by omega), show j + (n - 1) = j + n - 1 by omega]; exact hu1
  have hp2 : ps[n - 2]? = some u2 := by rw [gp (n - 2) (by omega), show j + (n - 2) = j + n - 2 by omega]; exact hu2
  have hPv := val_top3 hpsl hn hp0 hp1 hp2
  have hVv := val_top2 hnl hn hv1 hv2
  have hvr : val (vs.take (n - 2)) < B ^ (n - 2) := by
   have := val_lt (small_take hvs (n - 2))
   rwa [List.length_take, Nat.min_eq_left (by omega)] at this
  have hur : val (ps.take (n - 2)) < B ^ (n - 2) := by
   have := val_lt (small_take hpsS (n - 2))
   rwa [List.length_take, Nat.min_eq_left (by omega)] at this
  have hle0 : u0 <= v1 := top_le hPv hVv rfl hv2B hvr hPlt
  have hdm := Nat.div_add_mod (val ps) (val vs)
  have hmod := Nat.mod_lt (val ps) hV0
  have E : Est (u0 * B + u1) u2 (val (ps.take (n - 2))) v1 v2 (val (vs.take (n - 2))) (B ^ (n - 2)) (val ps) (val vs) (val ps / val vs) := ⟨hPv, hVv, hur, hvr, hu2B, hv2B, by
   have : 0 < B := B_pos
   omega, Nat.div_mul_le_self _ _, by
   rw [Nat.add_mul, Nat.one_mul, Nat.mul_comm]
   omega, Nat.div_lt_of_lt_mul hPlt⟩
  obtain ⟨q, hqe⟩ : ∃ q, q = val ps / val vs := ⟨_, rfl⟩
  rw [<- hqe] at E hdm
  have hv10 : v1 ≠ 0 := Nat.pos_iff_ne_zero.1 E.v1
  obtain ⟨d', hg, hd1, hd2, hd3⟩ := guess_loop K (runQ wk tab slow K (d + 2)) (slow.loop8 (f78_l1 slow K (runQ wk tab slow K (d + 2))) fuel) (H := H) (qb := .box [.slice nilSl]) (rb := .box [.slice nilSl]) (sh := i64 sh) (out := out) (hw.fr hfr) hwr.arr hn (by omega) (show j < 100000 by omega) hv1 hv2 hu2 E hnorm hv1B rfl hu1B hle0 2 K ((u0 * B + u1) / v1) ((u0 * B + u1) % v1) (by omega) (by
   have : 4294967296 <= v1 + v1 := hnorm
   show 4294967296 <= _
   omega) (Nat.lt_trans (Nat.mod_lt _ E.v1) hv1B) (est_start E) (est_first rfl hu1B hle0 hnorm) (by rw [Nat.mul_comm]; exact Nat.div_add_mod _ _)
  have hd1' : d' < 4294967296 := hd1
  obtain ⟨p, hop, hwp, hback⟩ := Wr.window hwr (j := j) (k := n + 1) (by simp; omega) (by omega)
  have e1 : (limbs us).take j = limbs (us.take j) := by simp [limbs, List.map_take]
  have e2 : ((limbs us).drop j).take (n + 1) = limbs ps := by rw [hps]; simp [limbs, List.map_take, List.map_drop]
  have e3 : (limbs us).drop (j + (n + 1)) = limbs (us.drop (j + (n + 1))) := by simp [limbs, List.map_drop]
  rw [e2] at hwp
  obtain ⟨H1, res, bw, h1, g1, sz1, k1, w1, s1, l1, b1, v1'⟩ := away_ok K (by omega) d H0.size hw rfl hfr hvs hpsS (by omega) (by omega) hd1 hwp
  have ho1 : Own lo2 H1 out (limbs outs) := Own.of_rows ho fun r' hr' => k1 r' fun e => by
   have := Own.ge2 ho hr'
   omega
  have next : ∀ (H2 : Heap) (res' : List Nat), Frame H0 H2 -> Wr H0.size H2 p r ((limbs us).take j) (limbs res') ((limbs us).drop (j + (n + 1))) -> Own lo2 H2 out (limbs (outs.set j q)) -> Small res' -> res'.length = n + 1 -> val res' = val ps % val vs -> ∃ qq rr H', f78_j7 slow K (runQ wk tab slow K (d + 2)) (slow.loop8 (f78_l1 slow K (runQ wk tab slow K (d + 2))) fuel) (.box [.slice nilSl]) (.box [.slice nilSl]) (i64 n) (i64 sh) w u out (i64 j) H2 = some (.tuple [qq, rr], H') /\ Frame H0 H' /\ IsNat H' qq (U0 / val vs) /\ IsNat H' rr (U0 % val vs / 2 ^ sh) := fun H2 res' hf2 hw2 ho2 hs2 hl2 hv2' => by
   have hw3 := hback H2 (limbs res') hw2 (by simp; omega)
   have e4 : (limbs us).take j ++ limbs res' ++ (limbs us).drop (j + (n + 1)) = limbs (us.take j ++ res' ++ us.drop (j + (n + 1))) := by rw [e1, e3]; simp [limbs]
   rw [e4] at hw3
   have hvs2 := val_set (hz j (by omega)) (z := q)
   rw [Nat.zero_mul, Nat.add_zero] at hvs2
   have hqB : q < B := E.qB
   have hjl : (us.take j).length = j := by simp; omega
   have hvn : val (us.take j ++ res' ++ us.drop (j + (n + 1))) = val (us.take j) + B ^ j * val res' := by
    rw [List.append_assoc, val_append, hjl, val_append, hhi, Nat.mul_zero, Nat.add_zero]
   have hvo : val us = val (us.take j) + B ^ j * val ps := by rw [val_split (l := us) (i := j) (by omega), hsp]
   obtain ⟨qq, rr, H3, h3, g3⟩ := long_loop (U0 := U0) K hK d hw hvs hnl hn hn' hm hsh hv1 hv2 hnorm hr hlo2 j fuel H2 _ (outs.set j q) (by omega) (by omega) hf2 (by simp; omega) (small_app (small_app (small_take hus j) hs2) (small_drop hus _)) hw3 ho2 (by simp [hol]) (small_set hos hqB) (fun i hi => by
    rw [List.getElem?_set_ne (by omega)]
    exact hz i (by omega)) (by
    rw [List.append_assoc, List.drop_left' hjl, val_append, hhi, Nat.mul_zero, Nat.add_zero, hv2']
    exact hmod) (by
    have hP : B ^ j * val ps = B ^ j * (val ps % val vs) + val vs * (q * B ^ j) := by
     have h9 : B ^ j * (val vs * q + val ps % val vs) = B ^ j * val ps := by rw [hdm]
     rw [<- h9, Nat.mul_add, Nat.add_comm, Nat.mul_left_comm (B ^ j) (val vs) q, Nat.mul_comm (B ^ j) q]
    rw [hvn, hvs2, hv2', <- hU, hvo, hP, Nat.mul_add]
    generalize B ^ j * (val ps % val vs) = a
    generalize val vs * (q * B ^ j) = b
    generalize val vs * val outs = c
    omega)
   refine ⟨qq, rr, H3, ?_, g3⟩
   unfold f78_j7
   rw [z_sub64 (by omega) (by omega)]
   exact h3
  have ej2 : ∀ k, slow.add (i64 j) (i64 n) k = k (i64 (j + n)) := fun k => n_addi k (by omega)
  have hlim : val res < B ^ (n + 1) := by rw [<- hpsl, <- l1]; exact val_lt s1
  rw [hpsl] at v1'
  have htop : ∀ A : Rs, f78_j6 slow K (runQ wk tab slow K (d + 2)) (slow.loop8 (f78_l1 slow K (runQ wk tab slow K (d + 2))) fuel) (.box [.slice nilSl]) (.box [.slice nilSl]) (i64 n) (i64 sh) w u out (i64 j) (u64 d') H = A -> slow.loop8 (f78_l1 slow K (runQ wk tab slow K (d + 2))) (fuel + 1) (.box [.slice nilSl]) (.box [.slice nilSl]) (i64 n) (i64 sh) w u out (.int .i64 (((j + 1 : Nat) : Int) - 1)) H = A := fun A hA => by
   have es1 : ∀ k, slow.sub (i64 n) (.int .i64 1) k = k (i64 (n - 1)) := fun k => n_subi k (b := 1) (by omega) (by omega)
   have es2 : ∀ k, slow.sub (i64 (j + n)) (.int .i64 1) k = k (i64 (j + n - 1)) := fun k => n_subi k (b := 1) (by omega) (by omega)
   have e6 : ∀ k, slow.shl (u64 u0) (.int .u64 32) k = k (u64 (u0 * 4294967296)) := fun k => n_shl64 k .u64 u0 32 (by decide) (by
    show u0 * 4294967296 < _
    omega)
   have e7 : ∀ k, slow.or (u64 (u0 * 4294967296)) (u64 u1) k = k (u64 (u0 * B + u1)) := fun k => by
    rw [n_or64 _ (by omega) (by omega), or_add _ _ hu1B]
    rfl
   have hx64 : u0 * B + u1 < 18446744073709551616 := by
    show u0 * 4294967296 + u1 < _
    omega
   have e8 : ∀ k, slow.quo (u64 (u0 * B + u1)) (u64 v1) k = k (u64 ((u0 * B + u1) / v1)) := fun k => n_quo64 k _ hv10 hx64
   have e9 : ∀ k, slow.rem (u64 (u0 * B + u1)) (u64 v1) k = k (u64 ((u0 * B + u1) % v1)) := fun k => n_rem k .u64 _ hv10
   rw [z_loop8, ej]
   have hjpos : (j : Int) >= 0 := by omega
   simp only [f78_l1, z_geq, decide_eq_true hjpos, z_cond, cond_true, ej2, hwr.arr.load (limbs_get hu0), n_conv64 _ .u32 u0 (by omega), e6, es2, hwr.arr.load (limbs_get hu1), n_conv64 _ .u32 u1 (by omega), e7, es1, (hw.fr hfr).load (limbs_get hv1), n_conv64 _ .u32 v1 (by omega), e8, e9]
   rw [hg]
   exact hA
  have ec : ∀ k, slow.conv .u32 (u64 d') k = k (u32 d') := fun k => by rw [n_conv32, Nat.mod_eq_of_lt hd1']
  have hop' : ∀ kk, slow.slice111 1 u (i64 j) (i64 (j + n + 1)) (i64 (j + n + 1)) H kk = kk p := hop
  have hqd : q * val vs + val ps % val vs = val ps := by rw [Nat.mul_comm]; exact hdm
  by_cases hb0 : bw = 0
  ·subst hb0
   rw [Nat.mul_zero, Nat.add_zero] at v1'
   have hde : d' = q := by
    have h1 : d' * val vs < (q + 1) * val vs := Nat.lt_of_le_of_lt (by omega) E.lt
    have := Nat.lt_of_mul_lt_mul_right h1
    omega
   obtain ⟨H2, st, o2, g2, sz2, rr2⟩ := ho1.store (i := j) (by simp; omega) (x := u32 d') rfl .i64
   rw [limbs_set, hde] at o2
   have hrow : H2.get r = H1.get r := g2.rows r hr
   obtain ⟨qq, rr, H3, h3, g3⟩ := next H2 res (Fr.trans g1 (g2.mono hlo2)) (w1.row hrow) o2 s1 (by omega) (by rw [hde] at v1'; omega)
   refine ⟨qq, rr, H3, htop _ ?_, g3⟩
   have hb : decide ((0 : Nat) ≠ 0) = false := rfl
   simp only [f78_j6, ej2, u_inc (show j + n < 1000000 by omega), hop', ec, h1, z_call, hb, z_not, Bool.not_false, z_cond, cond_true, st]
   exact h3
  ·have hb1 : bw = 1 := by omega
   subst hb1
   rw [Nat.mul_one] at v1'
   have hde : d' = q + 1 := by
    have h1 : ¬ d' <= q := fun h => by
     have := Nat.mul_le_mul_right (val vs) h
     omega
    omega
   have hd0 : d' + 4294967296 - 1 = q + 4294967296 := by omega
   have hqB : q < 4294967296 := E.qB
   have esub : ∀ k, slow.sub (u32 d') (.int .u32 1) k = k (u32 q) := fun k => by
    rw [show (SV.int .u32 1) = u32 1 from rfl, n_sub32 _ hd1' (by omega), hd0, Nat.add_mod_right, Nat.mod_eq_of_lt hqB]
   obtain ⟨H2, st, o2, g2, sz2, rr2⟩ := ho1.store (i := j) (by simp; omega) (x := u32 q) rfl .i64
   rw [limbs_set] at o2
   have hrow : H2.get r = H1.get r := g2.rows r hr
   obtain ⟨H3, res', c', h3, g3, sz3, k3, w3, s3, l3, b3, v3⟩ := back_loop K (runQ wk tab slow K (d + 2)) (slow.loop8 (f78_l1 slow K (runQ wk tab slow K (d + 2))) fuel) H0.size (qb := .box [.slice nilSl]) (rb := .box [.slice nilSl]) (sh := i64 sh) (u := u) (out := out) (jv := i64 j) hw rfl hvs s1 (m := n + 1) (by omega) (by omega) (by omega) (Hs := H2) (n + 1) 0 K 0 H2 [] (by omega) (by omega) (by omega) (fun d hd => by cases hd) rfl (Fr.trans g1 (g2.mono hlo2)) rfl (fun _ _ => rfl) (by simpa using w1.row hrow) (by simp [val])
   rw [hnl] at h3
   have hlim' : val res' < B ^ (n + 1) := by rw [<- l3]; exact val_lt s3
   have hsum : val res + val vs = B ^ (n + 1) + val ps % val vs := by
    rw [hde, Nat.add_mul, Nat.one_mul] at v1'
    generalize q * val vs = a at *
    omega
   have hm2 : val ps % val vs < B ^ (n + 1) := by
    have : val vs * 1 <= val vs * B := Nat.mul_le_mul_left _ B_pos
    have h2 : val vs * B <= B ^ (n + 1) := by
     rw [Nat.pow_succ]
     exact Nat.mul_le_mul_right _ (Nat.le_of_lt hVB)
    omega
   have hc' : c' = 1 := by
    rcases Nat.eq_zero_or_pos c' with h | h
    ·rw [h] at v3; omega
    ·omega
   rw [hc', Nat.mul_one] at v3
   have o3 : Own lo2 H3 out (limbs (outs.set j q)) := Own.of_rows o2 fun r' hr' => k3 r' fun e => by
    have := Own.ge2 o2 hr'
    omega
   obtain ⟨qq, rr, H4, h4, g4⟩ := next H3 res' g3 w3 o3 s3 (by omega) (by omega)
   refine ⟨qq, rr, H4, htop _ ?_, g4⟩
   have hb : decide ((1 : Nat) ≠ 0) = true := rfl
   have hpl : ∀ k, slow.len p k = k (i64 (n + 1)) := fun k => by rw [blen w1.arr, l1, hpsl]
   simp only [f78_j6, ej2, u_inc (show j + n < 1000000 by omega), hop', ec, h1, z_call, hb, z_not, Bool.not_true, z_cond, cond_false, esub, st, hpl]
   exact h3.trans h4
end Go.Sh.Of
namespace Go.Sh.Of
open Go
theorem y_bbox (cs : List SV) (k : KL) : slow.bbox (.agg cs) k = k cs := Eq.trans rfl rfl
theorem y_lfld (off : Nat) (cs : List SV) (k : K1) : slow.lfld off (.box cs) k = k (.lptr off) := Eq.trans rfl rfl
theorem lz_ok (K : Nat) (d : Nat) (H : Heap) {n : Nat} (hn : n < 4294967296) : runQ wk tab slow K (d + 2) 94 [u32 n] H = some (i64 (32 - bl n), H) := by
 show f94 slow K (runQ wk tab slow K (d + 1)) (u32 n) H = _
 have h : bl n <= 32 := bl_le.2 (show n < 2 ^ 32 from hn)
 have es : ∀ k, slow.sub (.int .i64 32) (i64 (bl n)) k = k (i64 (32 - bl n)) := fun k => n_subi k (a := 32) h (by omega)
 simp only [f94, len32_ok K d H hn, z_call, es, z_rest_int]
theorem norm_top {l : List Nat} {n t : Nat} (hs : Small l) (hl : l.length = n) (hn : 1 <= n) (ht : l[n - 1]? = some t) (hV : B ^ n <= val l + val l) : B <= t + t := by
 have h4 := val_split (l := l) (i := n - 1) (by omega)
 rw [val_drop ht, show n - 1 + 1 = n by omega, List.drop_eq_nil_iff.2 (by omega)] at h4
 simp only [val, Nat.mul_zero, Nat.add_zero] at h4
 have h5 := val_lt (small_take hs (n - 1))
 rw [List.length_take, Nat.min_eq_left (by omega)] at h5
 have h6 : B ^ n = B ^ (n - 1) * B := by rw [<- Nat.pow_succ, show (n - 1).succ = n by omega]
 refine Decidable.byContradiction fun h7 => ?_
 have h8 : t + t + 1 + 1 <= B := by
  have h9 : ¬ 4294967296 <= t + t := h7
  show t + t + 1 + 1 <= 4294967296
  omega
 have h9 : B ^ (n - 1) * (t + t + 1 + 1) <= B ^ (n - 1) * B := Nat.mul_le_mul_left _ h8
 rw [<- h6] at h9
 have h10 : B ^ (n - 1) * (t + t + 1 + 1) = B ^ (n - 1) * t + B ^ (n - 1) * t + B ^ (n - 1) + B ^ (n - 1) := by
  rw [Nat.mul_add, Nat.mul_add, Nat.mul_add, Nat.mul_one]
 rw [h10] at h9
 omega
theorem long_run (K d : Nat) (H : Heap) (v w : SV) : runQ wk tab slow K (d + 3) 78 [v, w] H = f78 slow K (runQ wk tab slow K (d + 2)) v w H := Eq.trans rfl rfl
theorem long_ok (K : Nat) (hK : 200000 < K) (d : Nat) (H : Heap) {v w : SV} {a b : Nat} (hv : IsNat H v a) (hw : IsNat H w b) (hb2 : 2 <= (digs b).length) (hab : b <= a) (ha : (digs a).length < 30000) :
  ∃ q r H', runQ wk tab slow K (d + 3) 78 [v, w] H = some (.tuple [q, r], H') /\ Frame H H' /\ IsNat H' q (a / b) /\ IsNat H' r (a % b) := by
 obtain ⟨x, rfl, hx, _⟩ := hv
 obtain ⟨y, rfl, hy, _⟩ := hw
 obtain ⟨n, hn⟩ : ∃ n, (digs b).length = n := ⟨_, rfl⟩
 obtain ⟨la, hla⟩ : ∃ la, (digs a).length = la := ⟨_, rfl⟩
 rw [hn] at hb2
 rw [hla] at ha
 have hnla : n <= la := by
  refine Decidable.byContradiction fun h => ?_
  have := val_cmp_len (a := a) (b := b) (by omega)
  omega
 have hb0 : b ≠ 0 := fun e => by rw [e, digs_zero] at hn; simp at hn; omega
 obtain ⟨tb, htb, htb0, htbB, hbl⟩ := bl_digs hb0
 rw [hn] at hbl
 have htb' : (digs b)[n - 1]? = some tb := by rw [<- hn, <- List.getLast?_eq_getElem?]; exact htb
 have hbl32 : bl tb <= 32 := bl_le.2 (show tb < 2 ^ 32 from htbB)
 have hbl1 : 1 <= bl tb := Decidable.byContradiction fun h => by
  have := (bl_le (n := tb) (k := 0)).1 (by omega)
  simp at this
  omega
 obtain ⟨sh, hsh⟩ : ∃ sh, 32 - bl tb = sh := ⟨_, rfl⟩
 have hsh31 : sh <= 31 := by omega
 have hBn : B ^ n = 2 ^ bl b * 2 ^ sh := pow_B2 (by omega)
 have hb1 : b < 2 ^ bl b := bl_le.1 (Nat.le_refl _)
 have hb3 : 2 ^ (bl b - 1) <= b := Decidable.byContradiction fun h => by
  have := (bl_le (n := b) (k := bl b - 1)).2 (by omega)
  omega
 have hVlt : b * 2 ^ sh < B ^ n := by
  rw [hBn]
  exact Nat.mul_lt_mul_of_pos_right hb1 (Nat.pow_pos (by decide))
 have hVge : B ^ n <= b * 2 ^ sh + b * 2 ^ sh := by
  have h1 : B ^ n = 2 ^ (bl b - 1) * 2 ^ (sh + 1) := pow_B2 (by omega)
  rw [h1, Nat.pow_succ, <- Nat.mul_assoc, Nat.mul_two]
  exact Nat.add_le_add (Nat.mul_le_mul_right _ hb3) (Nat.mul_le_mul_right _ hb3)
 have haB : a < B ^ la := by
  have := val_lt (digs_small a)
  rwa [val_digs, hla] at this
 have hbB : B ^ (n - 1) <= b := by
  rw [pow_B (m := n - 1) (k := 32 * (n - 1)) rfl]
  exact Nat.le_trans (pow_mono2 _ _ (by omega)) hb3
 have h31 := pow_32 hsh31
 have hUlt : a * 2 ^ sh < B ^ (la + 1) := by
  rw [Nat.pow_succ]
  exact Nat.mul_lt_mul'' haB (by show _ < 4294967296; omega)
 obtain ⟨w1, H1, vs, h1, g1, o1, s1, l1, v1⟩ := up_ok K (by omega) (d + 1) H hy (digs_small b) hsh31 (show n < 100000 by omega) (by omega) (by rw [val_digs]; exact hVlt)
 rw [show d + 1 + 1 = d + 2 from rfl] at h1
 rw [val_digs] at v1
 obtain ⟨u1, H2, us, h2, g2, o2, s2, l2, v2⟩ := up_ok K (by omega) (d + 1) H1 (hx.fr g1) (digs_small a) hsh31 (show la + 1 < 100000 by omega) (by omega) (by rw [val_digs]; exact hUlt)
 rw [show d + 1 + 1 = d + 2 from rfl] at h2
 rw [val_digs] at v2
 obtain ⟨m, hm⟩ : ∃ m, la + 1 - n = m := ⟨_, rfl⟩
 obtain ⟨r, wr⟩ := o2.wr (fun e => by
  have h := congrArg List.length e
  rw [limbs_len, List.length_nil] at h
  omega)
 have hrlt := wr.lt
 obtain ⟨o, H3, h3, o3, g3, _, _⟩ := z_make (H := H2) (lo := H2.size) (Nat.le_refl _) 4 (.int .u32 0) m (by omega) (roomy_small (by omega)) .i64 .i64
 rw [limbs_zeros] at o3
 obtain ⟨v1', hv1'⟩ : ∃ t, vs[n - 1]? = some t := ⟨_, List.getElem?_eq_getElem (by omega)⟩
 obtain ⟨v2', hv2'⟩ : ∃ t, vs[n - 2]? = some t := ⟨_, List.getElem?_eq_getElem (by omega)⟩
 have hnorm : B <= v1' + v1' := norm_top s1 l1 (by omega) hv1' (by rw [v1]; exact hVge)
 have htop : val (us.drop m) < val vs := by
  rw [<- val_div s2 (by omega)]
  refine Nat.div_lt_of_lt_mul ?_
  rw [v2, v1, <- Nat.mul_assoc]
  refine Nat.mul_lt_mul_of_pos_right ?_ (Nat.pow_pos (by decide))
  have h4 : B ^ la = B ^ m * B ^ (n - 1) := by rw [<- Nat.pow_add, show m + (n - 1) = la by omega]
  rw [h4] at haB
  exact Nat.lt_of_lt_of_le haB (Nat.mul_le_mul_left _ hbB)
 obtain ⟨q, rr, H4, h4, g4, n4, n5⟩ := long_loop (U0 := a * 2 ^ sh) K hK d (H0 := H1) (w := w1) (u := u1) (out := o) (r := r) (lo2 := H2.size) (sh := sh) o1.arr s1 l1 hb2 (by omega) (show m < 40000 by omega) hsh31 hv1' hv2' hnorm hrlt g2.size m K H3 us (List.replicate m 0) (Nat.le_refl _) (by omega) (Frame.trans g2 g3) (by omega) s2 (wr.fr g3) o3 (by simp) (small_zeros m) (fun i hi => by simp [hi]) htop (by rw [val_zeros, Nat.mul_zero, Nat.add_zero, v2])
 have hp : 0 < 2 ^ sh := Nat.pow_pos (by decide)
 rw [v1, Nat.mul_div_mul_right _ _ hp] at n4
 rw [v1, Nat.mul_mod_mul_right, Nat.mul_div_cancel _ hp] at n5
 refine ⟨q, rr, H4, ?_, Frame.trans g1 g4, n4, n5⟩
 rw [long_run]
 have es1 : ∀ k, slow.sub (i64 n) (.int .i64 1) k = k (i64 (n - 1)) := fun k => n_subi k (b := 1) (by omega) (by omega)
 have es2 : ∀ k, slow.sub (i64 (la + 1)) (i64 n) k = k (i64 m) := fun k => by rw [n_subi k (by omega) (by omega), hm]
 have es3 : ∀ k, slow.sub (i64 m) (.int .i64 1) k = k (.int .i64 ((m : Int) - 1)) := fun k => z_sub64 (by omega) (by omega) k
 have el1 : ∀ k, slow.len y k = k (i64 n) := fun k => by rw [blen hy, hn]
 have el2 : ∀ k, slow.len x k = k (i64 la) := fun k => by rw [blen hx, hla]
 have el3 : ∀ k, slow.len u1 k = k (i64 (la + 1)) := fun k => by rw [blen o2.arr, l2]
 have elz := lz_ok K d H (show tb < 4294967296 from htbB)
 rw [hsh] at elz
 simp only [f78, y_bbox, y_lfld, z_lld0, el1, es1, hy.load (limbs_get htb'), elz, z_call, h1, el2, u_inc (show la < 1000000 by omega), h2, el3, es2, h3, es3]
 exact h4
theorem div_ok (K : Nat) (hK : 200000 < K) (d : Nat) (H : Heap) {v w : SV} {a b : Nat} (hv : IsNat H v a) (hw : IsNat H w b) (hb : 0 < b) (ha : (digs a).length < 10000) :
  ∃ q r H', runQ wk tab slow K (d + 4) 48 [v, w] H = some (.tuple [q, r, .int .i64 0], H') /\ Frame H H' /\ IsNat H' q (a / b) /\ IsNat H' r (a % b) := by
 have hcmp := cmp_ok K (d + 2) H hv hw (by omega) (by omega)
 rw [show d + 2 + 1 = d + 3 from rfl] at hcmp
 have hv0 := hv
 have hw0 := hw
 obtain ⟨x, rfl, hx, hxf⟩ := hv
 obtain ⟨y, rfl, hy, hyf⟩ := hw
 have hne : digs b ≠ [] := fun e => by have := digs_nil.1 e; omega
 have hpos := List.length_pos_iff.2 hne
 show ∃ q r H', f48 slow K (runQ wk tab slow K (d + 3)) (.agg [x]) (.agg [y]) H = _ /\ _
 have e1 : ∀ k, slow.eql (i64 (digs b).length) (.int .i64 0) k = k (.bool false) := fun k => by rw [show (SV.int .i64 0) = i64 0 from rfl, n_eql, decide_eq_false (by omega)]
 simp only [f48, z_bbox, z_lfld, z_lld0, blen hy, e1, z_cond, cond_false, z_lload1, hcmp, z_call, z_lss]
 by_cases hlt : a < b
 ·have hc : decide (cmpN a b < 0) = true := by
   unfold cmpN
   rw [if_pos hlt]
   rfl
  rw [hc]
  simp only [cond_true, z_build0, z_bst1, z_resc1]
  refine ⟨.agg [.slice nilSl], .agg [x], H, rfl, Fr.refl _ _, ?_, ?_⟩
  ·rw [Nat.div_eq_of_lt hlt]
   exact ⟨_, rfl, by rw [digs_zero]; exact Arr.nil _, rfl⟩
  ·rw [Nat.mod_eq_of_lt hlt]
   exact ⟨x, rfl, hx, hxf⟩
 ·have hc : decide (cmpN a b < 0) = false := by
   unfold cmpN
   rw [if_neg hlt]
   split <;> rfl
  rw [hc]
  by_cases h1 : (digs b).length = 1
  ·obtain ⟨b', hb'⟩ : ∃ b', digs b = [b'] := List.length_eq_one_iff.1 h1
   have hbb : b' = b := by
    have := val_digs b
    rw [hb'] at this
    simpa [val] using this
   rw [hbb] at hb'
   have hB : b < B := digs_small b b (by rw [hb']; simp)
   have e2 : ∀ k, slow.eql (i64 (digs b).length) (.int .i64 1) k = k (.bool true) := fun k => by rw [h1, z_eql]; rfl
   have ha0 : digs a ≠ [] := fun e => by have := digs_nil.1 e; omega
   obtain ⟨u, H1, hu, ou, fu, _, _, _⟩ := (Own.nil H.size H).append (Nat.le_refl _) hx (by_ := 4) (roomy_small (by simp; omega))
   rw [List.nil_append] at ou
   obtain ⟨r, wr⟩ := ou.wr (by simpa using ha0)
   obtain ⟨H2, h2, w2, f2, _, _⟩ := short_ok K (d + 2) H1 hb hB (digs_small a) (by omega) (by omega) wr
   rw [show d + 2 + 1 = d + 3 from rfl, val_digs] at h2
   obtain ⟨s1, s2, _, s4⟩ := shortL_spec hb hB (digs_small a)
   obtain ⟨sl, h3, cu⟩ := cut_ok K (d + 2) H2 (ds := (shortL b (digs a)).1) w2.arr s4 ou.root (by rw [s1]; omega) (by rw [s1]; omega)
   rw [show d + 2 + 1 = d + 3 from rfl] at h3
   have hmB : a % b < B := Nat.lt_trans (Nat.mod_lt a hb) hB
   have hmB2 : a % b < 18446744073709551616 := Nat.lt_trans hmB (by unfold B; omega)
   obtain ⟨rv, H3, h4, f3, n3⟩ := of_ok K (by omega) (d + 1) H2 hmB2
   rw [show d + 1 + 2 = d + 3 from rfl] at h4
   have hq := cu.isNat
   rw [(shortL_val hb hB (digs_small a)).1, val_digs] at hq
   have n3' := n3
   obtain ⟨z, rfl, hz, hzf⟩ := n3
   have hld : ∀ k, slow.idx 1 y (.int .i64 0) (fun p => slow.load 1 false p H1 k) = k (u32 b) := fun k => (hy.fr fu).load (i := 0) (limbs_get (by rw [hb']; rfl)) .i64 k
   refine ⟨.agg [sl], .agg [z], H3, ?_, Frame.trans (Fr.trans fu f2) f3, hq.fr f3, n3'⟩
   simp only [cond_false, e2, z_cond, cond_true, z_lfld, z_lld0, hu, hld, h2, z_call, h3, n_conv64 _ .u32 (a % b) hmB2, h4, z_bst1, z_resc1]
  ·have e2 : ∀ k, slow.eql (i64 (digs b).length) (.int .i64 1) k = k (.bool false) := fun k => by rw [show (SV.int .i64 1) = i64 1 from rfl, n_eql, decide_eq_false h1]
   obtain ⟨q, r, H1, h2, g1, n1, n2⟩ := long_ok K hK d H hv0 hw0 (by omega) (by omega) (by omega)
   have n1' := n1
   have n2' := n2
   obtain ⟨q', rfl, _, _⟩ := n1
   obtain ⟨r', rfl, _, _⟩ := n2
   refine ⟨.agg [q'], .agg [r'], H1, ?_, g1, n1', n2'⟩
   simp only [cond_false, e2, z_cond, z_lload1, h2, z_call, z_ext0, z_ext1, z_bst1, z_resc1]
end Go.Sh.Of
namespace Go.Sh.Of
open Go
theorem one_big : 1 < 2 ^ 4096 := Nat.one_lt_two_pow (n := 4096) (by decide)
theorem dg_len {n : Nat} (h : n < 2 ^ 4096) : (digs n).length < 10000 := by
 have := digs_len h
 omega
end Go.Sh.Of
namespace Go.Sh.Of
open Go
@[irreducible] def digV (c : UInt8) : Nat := c.toNat - 48
theorem digV_eq (c : UInt8) : digV c = c.toNat - 48 := by unfold digV; rfl
def valS (a : Nat) : List UInt8 -> Nat
 | [] => a
 | c :: s => valS (10 * a + digV c) s
theorem valS_cons (a : Nat) (c : UInt8) (s : List UInt8) : valS a (c :: s) = valS (10 * a + digV c) s := rfl
theorem valS_append (a : Nat) : ∀ (s t : List UInt8), valS a (s ++ t) = valS (valS a s) t
 | [], t => rfl
 | c :: s, t => by
  rw [List.cons_append, valS_cons, valS_cons]
  exact valS_append _ s t
theorem valS_ge (a : Nat) : ∀ (s : List UInt8), a * 10 ^ s.length <= valS a s
 | [] => by simp [valS]
 | c :: s => by
  rw [valS_cons, List.length_cons]
  refine Nat.le_trans ?_ (valS_ge _ s)
  rw [Nat.pow_succ, Nat.mul_comm (10 ^ s.length) 10, <- Nat.mul_assoc]
  exact Nat.mul_le_mul_right _ (by omega)
theorem valS_split (a : Nat) : ∀ (s : List UInt8), valS a s = a * 10 ^ s.length + valS 0 s
 | [] => by simp [valS]
 | c :: s => by
  rw [valS_cons, valS_cons, List.length_cons]
  rw [valS_split (10 * a + digV c) s, valS_split (10 * 0 + digV c) s, Nat.pow_succ, Nat.mul_comm (10 ^ s.length) 10, <- Nat.mul_assoc, Nat.add_mul, Nat.mul_zero, Nat.zero_add, Nat.mul_comm 10 a, Nat.add_assoc]
def isDig (c : UInt8) : Bool := decide (48 <= c.toNat) && decide (c.toNat <= 57)
theorem isDig_iff {c : UInt8} : isDig c = true ↔ 48 <= c.toNat /\ c.toNat <= 57 := by simp [isDig]
theorem valS_lt (s : List UInt8) (h : s.all isDig = true) : valS 0 s < 10 ^ s.length := by
 have key : ∀ (s : List UInt8), s.all isDig = true -> ∀ a, valS a s < (a + 1) * 10 ^ s.length := by
  intro s
  induction s with
  | nil => intro _ a; simp [valS]
  | cons c s ih =>
   intro hs a
   rw [List.all_cons, Bool.and_eq_true] at hs
   have hc := isDig_iff.1 hs.1
   have hd := digV_eq c
   rw [valS_cons]
   refine Nat.lt_of_lt_of_le (ih hs.2 _) ?_
   rw [List.length_cons, Nat.pow_succ, Nat.mul_comm (10 ^ s.length) 10, <- Nat.mul_assoc]
   exact Nat.mul_le_mul_right _ (by omega)
 have := key s h 0
 omega
def digitsB (s : List UInt8) : Bool := !s.isEmpty && (!(decide (1 < s.length) && s.head? == some 48) && s.all isDig)
theorem digitsB_big {s : List UInt8} (h : digitsB s = true) (hl : 1 < s.length) : 10 ^ (s.length - 1) <= valS 0 s := by
 cases s with
 | nil => simp at hl
 | cons c s =>
  simp only [digitsB, List.isEmpty_cons, Bool.not_false, Bool.true_and, Bool.and_eq_true, Bool.not_eq_true', List.all_cons, decide_eq_true hl, List.head?_cons] at h
  have hc := isDig_iff.1 h.2.1
  have hne : c ≠ 48 := fun e => by rw [e] at h; simp at h
  have : c.toNat ≠ 48 := fun e => hne (UInt8.toNat_inj.1 e)
  have hd := digV_eq c
  rw [valS_cons, List.length_cons, Nat.add_sub_cancel]
  refine Nat.le_trans ?_ (valS_ge _ s)
  have h1 : 1 <= 10 * 0 + digV c := by omega
  have := Nat.mul_le_mul_right (10 ^ s.length) h1
  omega
def errN (s : List UInt8) : Int := if digitsB s then (if valS 0 s < 2 ^ 4096 then 0 else 3) else 12
def numN (s : List UInt8) : Nat := if digitsB s && decide (valS 0 s < 2 ^ 4096) then valS 0 s else 0
theorem ten_mono (a b : Nat) (h : a <= b) : 10 ^ a <= 10 ^ b := Nat.pow_le_pow_right (by decide) h
theorem long_text {s : List UInt8} (h : digitsB s = true) (hl : 4096 < s.length) : ¬ valS 0 s < 2 ^ 4096 := by
 have h1 := digitsB_big h (by omega)
 have h2 := ten_mono 4096 (s.length - 1) (by omega)
 have h3 := two_ten 4096
 omega
theorem ten_pow : ∀ k : Nat, 2 ^ (33 * k) <= 10 ^ (10 * k)
 | k => by
  rw [Nat.pow_mul, Nat.pow_mul]
  exact Nat.pow_le_pow_left (by decide) k
theorem long_text2 {s : List UInt8} (h : digitsB s = true) (hl : 1300 < s.length) : ¬ valS 0 s < 2 ^ 4096 := by
 have h1 := digitsB_big h (by omega)
 have h2 := ten_mono (10 * 130) (s.length - 1) (by omega)
 have h3 := ten_pow 130
 have h4 := pow_mono2 4096 (33 * 130) (by decide)
 omega
def bodyS (s : List UInt8) : List UInt8 := if s.head? = some 45 then s.drop 1 else s
def errS (s : List UInt8) : Int := if s = [45, 48] then 12 else errN (bodyS s)
def numS (s : List UInt8) : Int := if s = [45, 48] then 0 else sgn (decide (s.head? = some 45)) (numN (bodyS s))
theorem numN_lt (s : List UInt8) : numN s < 2 ^ 4096 := by
 unfold numN
 split
 ·rename_i h
  rw [Bool.and_eq_true, decide_eq_true_eq] at h
  exact h.2
 ·exact Nat.two_pow_pos 4096
end Go.Sh.Of
namespace Go.Sh.Of
open Go
theorem z_strcut10 {s : List UInt8} {n : Nat} (h : n <= s.length) (kd : IntKind) (k : K1) : slow.strcut10 (.str s) (.int kd n) k = k (.str (s.drop n)) := by
 show (opP (.strcut true false) [.str s, .int kd n]).bind k = _
 simp only [opP, if_pos (show (0 : Int) <= (n : Int) /\ (n : Int) <= s.length from ⟨by omega, by omega⟩), Int.toNat_natCast, Option.bind_some]
theorem pchk (C : CallC) (K : Nat) (H : Heap) {s : List UInt8} (hl : s.length < 9223372036854775808) : ∀ (rest : List UInt8) (i fuel : Nat), s.drop i = rest -> rest.length < fuel ->
  slow.loop4 (f38_l3 slow K C) fuel (.str s) (.box [.slice nilSl]) (i64 s.length) (i64 i) H = if rest.all isDig then (if s.length > 4096 then some (.tuple [.agg [.slice nilSl], .int .i64 3], H) else slow.loop3 (f38_l10 slow K C) K (.str s) (.box [.slice nilSl]) (.slice nilSl) H) else some (.tuple [.agg [.slice nilSl], .int .i64 12], H)
 | [], i, fuel, hd, hf => by
  obtain ⟨fuel, rfl⟩ : ∃ m, fuel = m + 1 := ⟨fuel - 1, by omega⟩
  have hi : ¬ i < s.length := by have := List.drop_eq_nil_iff.1 hd; omega
  rw [z_loop4]
  simp only [f38_l3, n_lss, decide_eq_false hi, z_cond, cond_false, List.all_nil, if_true, z_slen]
  rw [show (SV.int .i64 4096) = i64 4096 from rfl, n_gtr]
  by_cases h : s.length > 4096
  ·rw [decide_eq_true h, z_cond, cond_true, if_pos h]
   rfl
  ·rw [decide_eq_false h, z_cond, cond_false, if_neg h]
 | c :: rest, i, fuel, hd, hf => by
  obtain ⟨fuel, rfl⟩ : ∃ m, fuel = m + 1 := ⟨fuel - 1, by omega⟩
  have hc : s[i]? = some c := by
   have := congrArg List.head? hd
   rwa [List.head?_drop, List.head?_cons] at this
  have hi : i < s.length := (List.getElem?_eq_some_iff.1 hc).1
  have hd' : s.drop (i + 1) = rest := by rw [<- List.drop_drop, hd]; rfl
  rw [z_loop4]
  simp only [f38_l3, n_lss, decide_eq_true hi, z_cond, cond_true, z_stridx _ hc]
  rw [show (SV.int .u8 48) = u8 48 from rfl, show (SV.int .u8 57) = u8 57 from rfl]
  simp only [n_lss, n_gtr, z_guard]
  rw [List.all_cons]
  by_cases h1 : c.toNat < 48
  ·have hn : isDig c = false := by simp [isDig]; omega
   rw [decide_eq_true h1, cond_true, hn]
   simp only [f38_j5, z_cond, cond_true, Bool.false_and, Bool.false_eq_true, if_false]
   rfl
  ·rw [decide_eq_false h1, cond_false]
   by_cases h2 : c.toNat > 57
   ·have hn : isDig c = false := by simp [isDig]; omega
    rw [decide_eq_true h2, hn]
    simp only [f38_j5, z_cond, cond_true, Bool.false_and, Bool.false_eq_true, if_false]
    rfl
   ·have hy : isDig c = true := isDig_iff.2 ⟨by omega, by omega⟩
    rw [decide_eq_false h2, hy]
    simp only [f38_j5, z_cond, cond_false, Bool.true_and]
    rw [show (SV.int .i64 1) = i64 1 from rfl, n_addi _ (by omega)]
    exact pchk C K H hl rest (i + 1) fuel hd' (by simp at hf; omega)
theorem pmul (C : CallC) (K : Nat) {lo : Nat} {s : List UInt8} {n : Nat} (hn : n <= s.length) {v : SV} {b : Nat} (hb : b <= 1000000000) (k33 : SV -> SV -> SV -> Heap -> Rs) (bx : SV) (L : Nat) (hL : L < 100000) : ∀ (rest done : List Nat) (c fuel : Nat) (H : Heap), done.length + rest.length = L -> rest.length < fuel -> Small done -> Small rest -> c < 1000000000 -> lo <= H.size -> Own lo H v (limbs (done ++ rest)) ->
  ∃ v' H' ds', slow.loop8 (f38_l16 slow K C k33) fuel (.str s) bx v (i64 n) (u64 c) (u64 b) (i64 L) (i64 done.length) H = k33 (.str (s.drop n)) bx v' H' /\ Own lo H' v' (limbs ds') /\ Small ds' /\ ds'.length <= L + 1 /\ val ds' = val done + B ^ done.length * (val rest * b + c) /\ Fr lo H H'
 | [], done, c, fuel, H, hL', hf, hs, hr, hc, hlo, ho => by
  obtain ⟨fuel, rfl⟩ : ∃ m, fuel = m + 1 := ⟨fuel - 1, by omega⟩
  rw [List.append_nil] at ho
  have hlt : ¬ done.length < L := by simp at hL'; omega
  have hc32 : c % 4294967296 = c := Nat.mod_eq_of_lt (by omega)
  by_cases h0 : c > 0
  ·obtain ⟨u, H1, hu, hou, hfu, hru, hsz⟩ := z_lay1 (H := H) (lo := H.size) (Nat.le_refl _) (.int .u32 0) (x := u32 c) rfl
   obtain ⟨v', H2, ha, ho2, hf2, _⟩ := (ho.fr hfu).append (Nat.le_trans hlo hfu.size) hou.arr (by_ := 4) (roomy_small (by simp at hL' ⊢; omega))
   have e1 : limbs done ++ [u32 c] = limbs (done ++ [c]) := by simp
   rw [e1] at ho2
   refine ⟨v', H2, done ++ [c], ?_, ho2, fun x hx => ?_, by simp at hL' ⊢; omega, by rw [val_append]; simp [val], (hfu.mono hlo).trans hf2⟩
   ·rw [z_loop8]
    simp only [f38_l16, n_lss, decide_eq_false hlt, z_cond, cond_false]
    rw [show (SV.int .u64 0) = u64 0 from rfl, n_gtr, decide_eq_true h0]
    simp only [z_cond, cond_true, n_conv32, hc32, hu, ha, f38_j20, z_strcut10 hn]
   ·rcases List.mem_append.1 hx with hx | hx
    ·exact hs x hx
    ·rw [List.mem_singleton.1 hx]
     have : (1000000000 : Nat) < B := by decide
     omega
  ·have hc0 : c = 0 := by omega
   subst hc0
   refine ⟨v, H, done, ?_, ho, hs, by simp at hL'; omega, by simp [val], Fr.refl _ _⟩
   rw [z_loop8]
   simp only [f38_l16, n_lss, decide_eq_false hlt, z_cond, cond_false]
   rw [show (SV.int .u64 0) = u64 0 from rfl, n_gtr, decide_eq_false h0]
   simp only [z_cond, cond_false, f38_j20, z_strcut10 hn]
 | d :: rest, done, c, fuel, H, hL', hf, hs, hr, hc, hlo, ho => by
  obtain ⟨fuel, rfl⟩ : ∃ m, fuel = m + 1 := ⟨fuel - 1, by omega⟩
  simp only [List.length_cons] at hL' hf
  have hlt : done.length < L := by omega
  have hd := hr d (by simp)
  have hd' : d < 4294967296 := hd
  have hget : (limbs (done ++ d :: rest))[done.length]? = some (u32 d) := by simp
  have hdb : d * b <= (B - 1) * 1000000000 := Nat.mul_le_mul (by omega) hb
  have hBv : B = 4294967296 := rfl
  have hq : (d * b + c) / B < 1000000000 := by
   rw [Nat.div_lt_iff_lt_mul (by decide)]
   have : (B - 1) * 1000000000 + 1000000000 = 1000000000 * B := by decide
   omega
  obtain ⟨H1, st, ho1, hf1, sz1, _⟩ := ho.store (i := done.length) (by simp) (x := u32 ((d * b + c) % 4294967296)) rfl .i64
  have e1 : (limbs (done ++ d :: rest)).set done.length (u32 ((d * b + c) % 4294967296)) = limbs ((done ++ [(d * b + c) % B]) ++ rest) := by
   simp [limbs, B]
  rw [e1] at ho1
  obtain ⟨v', H', ds', h1, h2, h3, h4, h5, h6⟩ := pmul C K hn hb k33 bx L hL rest (done ++ [(d * b + c) % B]) ((d * b + c) / B) fuel H1 (by simp; omega) (by omega) (fun x hx => by
   rcases List.mem_append.1 hx with hx | hx
   ·exact hs x hx
   ·rw [List.mem_singleton.1 hx]; exact Nat.mod_lt _ (by decide)) (fun x hx => hr x (by simp [hx])) hq (by omega) ho1
  refine ⟨v', H', ds', ?_, h2, h3, h4, ?_, hf1.trans h6⟩
  ·rw [z_loop8]
   simp only [f38_l16, n_lss, decide_eq_true hlt, z_cond, cond_true, ho.arr.load hget]
   have hm1 : d * b + c < 18446744073709551616 := by omega
   rw [n_conv64 _ .u32 d (by omega), n_mul64 _ (by omega), n_add64 _ hm1, n_conv32, show (SV.int .u64 32) = SV.int .u64 ((32 : Nat) : Int) from rfl, n_shr _ .u64 .u64 _ 32 (by decide), st]
   rw [show (SV.int .i64 1) = i64 1 from rfl, n_addi _ (by omega)]
   rw [List.length_append] at h1
   exact h1
  ·rw [h5, val_append, List.length_append]
   simp only [val, List.length_cons, List.length_nil, Nat.zero_add, Nat.pow_succ, Nat.mul_zero, Nat.add_zero]
   have hdm := Nat.mod_add_div (d * b + c) B
   rw [Nat.add_assoc, Nat.mul_assoc (B ^ done.length) B, <- Nat.mul_add]
   congr 2
   rw [Nat.add_mul, Nat.mul_add, Nat.mul_assoc]
   omega
theorem pten (C : CallC) (K : Nat) (H : Heap) {s : List UInt8} (hs : s.all isDig = true) {n : Nat} (hn9 : n <= 9) (hn : n <= s.length) {v : SV} {ds : List Nat} (hv : Arr H v (limbs ds)) (k33 : SV -> SV -> SV -> Heap -> Rs) (bx : SV) : ∀ (m i c fuel : Nat), i + m = n -> m < fuel -> c < 10 ^ i ->
  slow.loop8 (f38_l12 slow K C k33) fuel (.str s) bx v (i64 n) (u64 c) (u64 (10 ^ i)) (i64 n) (i64 i) H = slow.loop8 (f38_l16 slow K C k33) K (.str s) bx v (i64 n) (u64 (valS c ((s.drop i).take m))) (u64 (10 ^ n)) (i64 ds.length) (i64 0) H
 | 0, i, c, fuel, him, hf, hc => by
  obtain ⟨fuel, rfl⟩ : ∃ m, fuel = m + 1 := ⟨fuel - 1, by omega⟩
  have hi : i = n := by omega
  subst hi
  rw [z_loop8]
  have hlt : ¬ i < i := Nat.lt_irrefl i
  simp only [f38_l12, n_lss, decide_eq_false hlt, z_cond, cond_false, blen hv, List.take_zero, valS]
  rfl
 | m + 1, i, c, fuel, him, hf, hc => by
  obtain ⟨fuel, rfl⟩ : ∃ m, fuel = m + 1 := ⟨fuel - 1, by omega⟩
  have hlt : i < n := by omega
  obtain ⟨x, hx⟩ : ∃ x, s[i]? = some x := ⟨_, List.getElem?_eq_getElem (by omega)⟩
  have hdig := isDig_iff.1 (List.all_eq_true.1 hs x (List.mem_of_getElem? hx))
  have hdx : s.drop i = x :: s.drop (i + 1) := List.drop_eq_getElem?_toList_append (l := s) (i := i) ▸ by rw [hx]; rfl
  have hdv := digV_eq x
  have hp : 10 ^ i <= 10 ^ 8 := Nat.pow_le_pow_right (by decide) (by omega)
  rw [z_loop8]
  have hsub : ∀ k, slow.sub (u8 x.toNat) (.int .u8 48) k = k (u8 (digV x)) := fun k => by
   rw [z_sub, show ((x.toNat : Int) - 48) = ((digV x : Nat) : Int) by omega, wrap_u8, Nat.mod_eq_of_lt (by omega)]
  simp only [f38_l12, n_lss, decide_eq_true hlt, z_cond, cond_true, z_stridx _ hx, hsub]
  rw [show (SV.int .u64 10) = u64 10 from rfl, n_mul64 _ (by omega), n_conv64 _ .u8 _ (by omega), n_add64 _ (by omega), n_mul64 _ (by omega), show (SV.int .i64 1) = i64 1 from rfl, n_addi _ (by omega)]
  have e10 : 10 * 10 ^ i = 10 ^ (i + 1) := by rw [Nat.pow_succ, Nat.mul_comm]
  rw [e10, pten C K H hs hn9 hn hv k33 bx m (i + 1) (10 * c + digV x) fuel (by omega) (by omega) (by rw [Nat.pow_succ]; omega)]
  rw [hdx, List.take_succ_cons, valS_cons]
theorem pout (K : Nat) (hK : 100000 < K) (d : Nat) {H0 : Heap} : ∀ (N : Nat) (s : List UInt8) (fuel : Nat) (H : Heap) (v : SV) (ds : List Nat), s.length <= N -> N < fuel -> s.all isDig = true -> ds.length + s.length <= 5000 -> Frame H0 H -> Own H0.size H v (limbs ds) -> Small ds ->
  ∃ r H', slow.loop3 (f38_l10 slow K (runQ wk tab slow K (d + 3))) fuel (.str s) (.box [.slice nilSl]) v H = some (.tuple [r, .int .i64 (if valS (val ds) s < 2 ^ 4096 then 0 else 3)], H') /\ Frame H0 H' /\ IsNat H' r (if valS (val ds) s < 2 ^ 4096 then valS (val ds) s else 0)
 | N, [], fuel, H, v, ds, hN, hf, hs, hl, hfr, ho, hsm => by
  obtain ⟨fuel, rfl⟩ : ∃ m, fuel = m + 1 := ⟨fuel - 1, by omega⟩
  simp only [List.length_nil, Nat.add_zero] at hl
  obtain ⟨sl, h2, hcut⟩ := cut_ok K (d + 2) H (ds := ds) ho.arr hsm ho.root (by omega) (by omega)
  have hlen : (digs (val ds)).length < 10000000 := by
   have := digs_len_le (val_lt hsm)
   omega
  obtain ⟨r, h3, h4⟩ := fits_ok K d H hcut.isNat hlen
  obtain ⟨sl2, rfl, h5, h6⟩ := h4
  refine ⟨.agg [sl2], H, ?_, hfr, sl2, rfl, h5, h6⟩
  rw [z_loop3]
  simp only [f38_l10, z_slen, List.length_nil]
  rw [show (SV.int .i64 0) = i64 0 from rfl, n_gtr]
  have h00 : ¬ (0 : Nat) > 0 := by omega
  simp only [decide_eq_false h00, z_cond, cond_false, h2, z_call, h3, z_ext0, z_ext1, z_bst1, z_resc1, z_rest_int, valS]
  rfl
 | N, x :: s', fuel, H, v, ds, hN, hf, hs, hl, hfr, ho, hsm => by
  obtain ⟨fuel, rfl⟩ : ∃ m, fuel = m + 1 := ⟨fuel - 1, by omega⟩
  obtain ⟨N, rfl⟩ : ∃ m, N = m + 1 := ⟨N - 1, by simp at hN; omega⟩
  generalize hsx : x :: s' = s at *
  have hpos : s.length > 0 := by rw [<- hsx]; simp
  have hn0 : (s.length - 1) % 9 + 1 <= s.length := by
   have := Nat.mod_le (s.length - 1) 9
   omega
  have hn9 : (s.length - 1) % 9 + 1 <= 9 := by omega
  generalize hne : (s.length - 1) % 9 + 1 = n at hn0 hn9
  have hn1 : 1 <= n := by omega
  have hct : (s.take n).all isDig = true := List.all_eq_true.2 fun c hc => List.all_eq_true.1 hs c (List.mem_of_mem_take hc)
  have hcd : (s.drop n).all isDig = true := List.all_eq_true.2 fun c hc => List.all_eq_true.1 hs c (List.mem_of_mem_drop hc)
  have htl : (s.take n).length = n := List.length_take_of_le hn0
  have hclt := valS_lt (s.take n) hct
  rw [htl] at hclt
  have hp9 : 10 ^ n <= 10 ^ 9 := Nat.pow_le_pow_right (by decide) hn9
  obtain ⟨v', H1, ds', h1, ho1, hsm1, hl1, hv1, f1⟩ := pmul (runQ wk tab slow K (d + 3)) K hn0 (v := v) (b := 10 ^ n) (by omega) (slow.loop3 (f38_l10 slow K (runQ wk tab slow K (d + 3))) fuel) (.box [.slice nilSl]) ds.length (by omega) ds [] (valS 0 (s.take n)) K H (by simp) (by omega) (fun x hx => by cases hx) hsm (by omega) hfr.size ho
  have e2 : val ds' = valS (val ds) (s.take n) := by
   rw [hv1, valS_split (val ds), htl]
   simp [val]
  have hdl : (s.drop n).length = s.length - n := by simp
  obtain ⟨r, H2, h3, f3, hr⟩ := pout K hK d N (s.drop n) fuel H1 v' ds' (by omega) (by omega) hcd (by omega) (Fr.trans hfr f1) ho1 hsm1
  have e3 : valS (val ds') (s.drop n) = valS (val ds) s := by
   rw [e2, <- valS_append, List.take_append_drop]
  rw [e3] at h3 hr
  refine ⟨r, H2, ?_, f3, hr⟩
  rw [z_loop3]
  simp only [f38_l10, z_slen]
  rw [show (SV.int .i64 0) = i64 0 from rfl, n_gtr, decide_eq_true hpos, z_cond, cond_true, show (SV.int .i64 1) = i64 1 from rfl, n_subi _ (by omega) (by omega), show (SV.int .i64 9) = i64 9 from rfl, n_rem _ .i64 _ (by decide), n_addi _ (by omega), hne]
  have hten := pten (runQ wk tab slow K (d + 3)) K H hs hn9 hn0 ho.arr (slow.loop3 (f38_l10 slow K (runQ wk tab slow K (d + 3))) fuel) (.box [.slice nilSl]) n 0 0 K (by omega) (by omega) (by simp)
  rw [Nat.pow_zero, List.drop_zero] at hten
  rw [show (SV.int .u64 0) = u64 0 from rfl, show (SV.int .u64 1) = u64 1 from rfl, hten]
  exact h1.trans h3
theorem nparse_ok (K : Nat) (hK : 1000000 < K) (d : Nat) (H : Heap) {s : List UInt8} (hl : s.length < 9223372036854775808) (hsK : s.length < K) :
  ∃ r H', runQ wk tab slow K (d + 4) 38 [.str s] H = some (.tuple [r, .int .i64 (errN s)], H') /\ Frame H H' /\ IsNat H' r (numN s) := by
 show ∃ r H', f38 slow K (runQ wk tab slow K (d + 3)) (.str s) H = _ /\ _
 have hz : IsNat H (.agg [.slice nilSl]) 0 := ⟨_, rfl, by rw [digs_zero]; exact Arr.nil H, rfl⟩
 have bad : f38_j1 slow K (runQ wk tab slow K (d + 3)) (.str s) (.box [.slice nilSl]) (.bool true) H = some (.tuple [.agg [.slice nilSl], .int .i64 12], H) := rfl
 by_cases h0 : s = []
 ·subst h0
  exact ⟨_, H, rfl, Fr.refl _ _, hz⟩
 ·have h0b : (s == ([] : List UInt8)) = false := by
   cases s with
   | nil => exact absurd rfl h0
   | cons _ _ => rfl
  have hem : s.isEmpty = false := by cases s <;> simp_all
  have good : (!(decide (1 < s.length) && s.head? == some 48)) = true -> ∃ r H', f38_j1 slow K (runQ wk tab slow K (d + 3)) (.str s) (.box [.slice nilSl]) (.bool false) H = some (.tuple [r, .int .i64 (errN s)], H') /\ Frame H H' /\ IsNat H' r (numN s) := fun hh => by
   simp only [f38_j1, z_cond, cond_false, z_slen]
   rw [show (SV.int .i64 0) = i64 0 from rfl, pchk _ K H hl s 0 K rfl (by omega)]
   cases hall : s.all isDig with
   | false =>
    have hB : digitsB s = false := by unfold digitsB; rw [hall]; simp
    have e1 : errN s = 12 := by unfold errN; rw [hB]; rfl
    have e2 : numN s = 0 := by unfold numN; rw [hB]; rfl
    rw [e1, e2]
    exact ⟨_, H, rfl, Fr.refl _ _, hz⟩
   | true =>
    have hB : digitsB s = true := by unfold digitsB; rw [hall, hh, hem]; rfl
    by_cases hbig : s.length > 4096
    ·have hlong := long_text hB hbig
     have e1 : errN s = 3 := by unfold errN; rw [if_pos hB, if_neg hlong]
     have e2 : numN s = 0 := by unfold numN; rw [hB, decide_eq_false hlong]; rfl
     rw [e1, e2, if_pos rfl, if_pos hbig]
     exact ⟨_, H, rfl, Fr.refl _ _, hz⟩
    ·rw [if_pos rfl, if_neg hbig]
     obtain ⟨r, H', h1, f1, hr⟩ := pout K (by omega) d (H0 := H) 4096 s K H (.slice nilSl) [] (by omega) (by omega) hall (by simp; omega) (Fr.refl _ _) (Own.nil _ _) (fun x hx => by cases hx)
     refine ⟨r, H', ?_, f1, ?_⟩
     ·rw [h1]; unfold errN; rw [if_pos hB]; rfl
     ·unfold numN
      rw [hB, Bool.true_and]
      simp only [decide_eq_true_eq]
      exact hr
  simp only [f38, z_seql, h0b, z_guard, cond_false, z_slen]
  rw [show (SV.int .i64 1) = i64 1 from rfl, n_gtr]
  by_cases h1 : s.length > 1
  ·obtain ⟨c, hc⟩ : ∃ c, s[0]? = some c := ⟨_, List.getElem?_eq_getElem (by omega)⟩
   have hst : ∀ k, slow.stridx (.str s) (.int .i64 0) k = k (u8 c.toNat) := fun k => z_stridx (n := 0) k hc .i64
   have hhd : s.head? = some c := by rw [<- hc]; cases s <;> rfl
   rw [decide_eq_true h1, z_guard, cond_true, hst, show (SV.int .u8 48) = u8 48 from rfl, n_eql]
   by_cases h2 : c.toNat = 48
   ·have hB : digitsB s = false := by
     unfold digitsB
     rw [hhd, show c = 48 from UInt8.toNat_inj.1 h2, decide_eq_true (show 1 < s.length from h1)]
     simp
    have e1 : errN s = 12 := by unfold errN; rw [hB]; rfl
    have e2 : numN s = 0 := by unfold numN; rw [hB]; rfl
    rw [decide_eq_true h2, bad, e1, e2]
    exact ⟨_, H, rfl, Fr.refl _ _, hz⟩
   ·rw [decide_eq_false h2]
    refine good ?_
    have : (some c == some (48 : UInt8)) = false := beq_eq_false_iff_ne.2 fun e => h2 (by rw [Option.some.inj e]; rfl)
    rw [hhd, this]
    simp
  ·rw [decide_eq_false h1, z_guard, cond_false]
   refine good ?_
   rw [decide_eq_false (show ¬ 1 < s.length from h1)]
   rfl
theorem zparse_ok (K : Nat) (hK : 1000000 < K) (d : Nat) (H : Heap) {s : List UInt8} (hl : s.length < 9223372036854775808) (hsK : s.length < K) :
  ∃ r H', runQ wk tab slow K (d + 5) 23 [.str s] H = some (.tuple [r, .int .i64 (errS s)], H') /\ Frame H H' /\ IsInt H' r (numS s) := by
 show ∃ r H', f23 slow K (runQ wk tab slow K (d + 4)) (.str s) H = _ /\ _
 have main : ∀ (t : List UInt8) (m : Bool), t = bodyS s -> m = decide (s.head? = some 45) -> t.length < 9223372036854775808 /\ t.length < K -> ∃ r H', f23_j2 slow K (runQ wk tab slow K (d + 4)) (.str s) (.box [.bool false, .slice nilSl]) (.str t) (.bool m) H = some (.tuple [r, .int .i64 (errS s)], H') /\ Frame H H' /\ IsInt H' r (numS s) := fun t m ht hm htl => by
  simp only [f23_j2, z_seql]
  by_cases h1 : s = [45, 48]
  ·have hb : (s == [45, 48]) = true := by rw [h1]; rfl
   have e1 : errS s = 12 := if_pos h1
   have e2 : numS s = 0 := if_pos h1
   rw [hb, e1, e2]
   exact ⟨_, H, rfl, Fr.refl _ _, IsInt.zero H⟩
  ·have hb : (s == [45, 48]) = false := beq_eq_false_iff_ne.2 h1
   obtain ⟨r, H1, h2, f1, hr⟩ := nparse_ok K hK d H (s := t) htl.1 htl.2
   have e1 : errS s = errN t := by unfold errS; rw [if_neg h1, ht]
   have e2 : numS s = sgn m (numN t) := by unfold numS; rw [if_neg h1, ht, hm]
   rw [hb, e1, e2]
   have hn := numN_lt t
   obtain ⟨sl, rfl, hsl, hsf⟩ := hr
   simp only [z_cond, cond_false, h2, z_call, z_ext0, z_ext1, z_bst1, z_neq]
   by_cases h3 : errN t = 0
   ·rw [h3]
    obtain ⟨r2, h5, hr2⟩ := zmake_ok K (d + 1) H1 (v := .agg [sl]) (n := numN t) m ⟨sl, rfl, hsl, hsf⟩ (by have := digs_len hn; omega)
    obtain ⟨sl2, rfl, h6, h7⟩ := hr2
    refine ⟨_, H1, ?_, f1, sl2, rfl, h6, h7⟩
    simp only [bne_self_eq_false, z_cond, cond_false, z_lload1, h5, z_call, z_bst2, z_resc2]
   ·have hb2 : (errN t != 0) = true := bne_iff_ne.2 h3
    have h4 : numN t = 0 := by
     unfold numN
     unfold errN at h3
     split
     ·rename_i hh
      rw [Bool.and_eq_true, decide_eq_true_eq] at hh
      rw [if_pos hh.1, if_pos hh.2] at h3
      exact absurd rfl h3
     ·rfl
    have h5 : sgn m (numN t) = 0 := by rw [h4]; unfold sgn; split <;> rfl
    rw [h5, hb2]
    simp only [z_cond, cond_true, z_rest_int]
    exact ⟨_, H1, rfl, f1, IsInt.zero H1⟩
 simp only [f23, z_slen]
 rw [show (SV.int .i64 0) = i64 0 from rfl, n_gtr]
 by_cases h0 : s.length > 0
 ·obtain ⟨c, hc⟩ : ∃ c, s[0]? = some c := ⟨_, List.getElem?_eq_getElem (by omega)⟩
  have hst : ∀ k, slow.stridx (.str s) (i64 0) k = k (u8 c.toNat) := fun k => z_stridx (n := 0) k hc .i64
  have hhd : s.head? = some c := by rw [<- hc]; cases s <;> rfl
  rw [decide_eq_true h0, z_guard, cond_true, hst, show (SV.int .u8 45) = u8 45 from rfl, n_eql]
  by_cases h2 : c.toNat = 45
  ·have hc45 : s.head? = some 45 := by rw [hhd, show c = 45 from UInt8.toNat_inj.1 h2]
   rw [decide_eq_true h2]
   simp only [f23_j1, z_cond, cond_true]
   rw [show (SV.int .i64 1) = i64 1 from rfl, z_strcut10 (by omega)]
   exact main _ true (by unfold bodyS; rw [if_pos hc45]) (decide_eq_true hc45).symm ⟨by simp; omega, by simp; omega⟩
  ·have hc45 : ¬ s.head? = some 45 := by
    rw [hhd]
    intro e
    exact h2 (by rw [Option.some.inj e]; rfl)
   rw [decide_eq_false h2]
   simp only [f23_j1, z_cond, cond_false]
   exact main _ false (by unfold bodyS; rw [if_neg hc45]) (decide_eq_false hc45).symm ⟨hl, hsK⟩
 ·have hc45 : ¬ s.head? = some 45 := by
   have : s = [] := List.eq_nil_of_length_eq_zero (by omega)
   rw [this]; simp
  rw [decide_eq_false h0, z_guard, cond_false]
  simp only [f23_j1, z_cond, cond_false]
  exact main _ false (by unfold bodyS; rw [if_neg hc45]) (decide_eq_false hc45).symm ⟨hl, hsK⟩
end Go.Sh.Of

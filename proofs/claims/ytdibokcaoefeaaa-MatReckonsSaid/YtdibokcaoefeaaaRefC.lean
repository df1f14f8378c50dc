/- Contracts of the reference's layer 1: Small, Text; of layer 5: Of, Text. Contracts of the reference's layer 5: Fits, From, Tell. Contracts of the reference's layer 5: Tell, Identity; of law05: rows, same. -/
import Derived.Test.YtdibokcaoefeaaaRefB
import Derived.Test.YtdibokcaoefeaaaZintA
import Derived.Test.YtdibokcaoefeaaaMatC
set_option linter.unusedVariables false
set_option linter.unusedSimpArgs false
namespace Go.Sh.Of
open Go

theorem rsm_loop (C : CallC) (K : Nat) (H : Heap) {v : SV} {ds : List Nat} (hv : Arr H v (rl ds)) (hs : RSmall ds) (hl : ds.length ≤ 4) : ∀ (n fuel : Nat), n ≤ ds.length → n < fuel →
    slow.loop3 (f48_l2 slow K C) fuel v (u64 (rval (ds.drop n))) (.int .i64 ((n : Int) - 1)) H = some (.tuple [u64 (rval ds), .bool true], H)
  | 0, fuel, hn, hf => by
    obtain ⟨fuel, rfl⟩ : ∃ m, fuel = m + 1 := ⟨fuel - 1, by omega⟩
    rw [z_loop3]
    have h0 : ¬ (((0 : Nat) : Int) - 1 ≥ 0) := by omega
    rw [List.drop_zero]
    simp only [f48_l2, z_geq, decide_eq_false h0, z_cond, cond_false, z_rest_int]
  | n + 1, fuel, hn, hf => by
    obtain ⟨fuel, rfl⟩ : ∃ m, fuel = m + 1 := ⟨fuel - 1, by omega⟩
    rw [z_loop3]
    have h0 : ((n + 1 : Nat) : Int) - 1 ≥ 0 := by omega
    have e : (((n + 1 : Nat) : Int) - 1) = (n : Int) := by omega
    obtain ⟨x, hx⟩ : ∃ x, ds[n]? = some x := ⟨_, List.getElem?_eq_getElem (by omega)⟩
    have hxD : x < 65536 := hs x (List.mem_of_getElem? hx)
    have hdx : ds.drop n = x :: ds.drop (n + 1) := List.drop_eq_getElem?_toList_append (l := ds) (i := n) ▸ by rw [hx]; rfl
    have hsd : RSmall (ds.drop (n + 1)) := fun q hq => hs q (List.mem_of_mem_drop hq)
    have hlt := rval_lt hsd
    have hle : D ^ (ds.drop (n + 1)).length ≤ D ^ 3 := Nat.pow_le_pow_right (by decide) (by simp; omega)
    have h3 : D ^ 3 = 281474976710656 := by decide
    have hR : rval (ds.drop n) = rval (ds.drop (n + 1)) * 65536 + x := by
      rw [hdx, rval, Nat.mul_comm (rval _) 65536, Nat.add_comm]; rfl
    have ih := rsm_loop C K H hv hs hl n fuel (by omega) (by omega)
    rw [hR] at ih
    simp only [f48_l2, z_geq, decide_eq_true h0, z_cond, cond_true]
    rw [show (SV.int .u64 65536) = u64 65536 from rfl, n_mul64 _ (by omega), e, hv.load (rl_get hx), n_conv64 _ .u32 x (by omega), n_add64 _ (by omega), z_sub64 (by omega) (by omega)]
    exact ih
theorem rsm_ok (K : Nat) (d : Nat) (H : Heap) {v : SV} {n : Nat} (hv : IsR H v n) (hl : (rdigs n).length ≤ 4) (hK : 10 < K) :
    runQ wk tab slow K (d + 1) 48 [v] H = some (.tuple [u64 n, .bool true], H) := by
  show f48 slow K (runQ wk tab slow K d) v H = _
  have h4 : ¬ ((rdigs n).length > 4) := by omega
  simp only [f48, rlen hv]
  rw [show (SV.int .i64 4) = i64 4 from rfl, n_gtr, decide_eq_false h4, z_cond, cond_false, z_sub64 (by omega) (by omega)]
  have := rsm_loop (runQ wk tab slow K d) K H hv (rdigs_small n) hl (rdigs n).length K (Nat.le_refl _) (by omega)
  rw [List.drop_length, rval_digs] at this
  exact this
theorem z_str1 {H : Heap} {v : SV} {d : Nat} (h : Arr H v [u8 (48 + d)]) (hd : d < 10) (k : K1) : slow.str v H k = k (.str [chr d]) := by
  obtain ⟨s, rfl, e1, e2⟩ := h.elems
  have hb : bytesOf [u8 (48 + d)] = some [chr d] := bytes_chrs [d] (by simpa using hd)
  show ((opR .str [.slice s] H).bind _) = _
  simp only [opR, e2, Option.bind_some, hb, Option.map_some]
theorem rtext_in (C : CallC) (K : Nat) {m : Nat} (q : SV) (k7 : SV → SV → Heap → Rs) (N : Nat) (hN : N < 1000000000) : ∀ (j i x fuel : Nat) (H : Heap) (pre : List Nat), i + j = 4 → j < fuel → x < 10 ^ j → IsR H q m → pre.length + (decLE (x + 10 ^ j * m)).length ≤ N →
    ∃ H' pre', slow.loop4 (f47_l4 slow K C k7) fuel (.str (pre.reverse.map chr)) q (u64 x) (i64 i) H = k7 q (.str (pre'.reverse.map chr)) H' ∧ Frame H H' ∧ pre' ++ decLE m = pre ++ decLE (x + 10 ^ j * m)
  | 0, i, x, fuel, H, pre, hij, hf, hx, hq, hlen => by
    obtain ⟨fuel, rfl⟩ : ∃ m, fuel = m + 1 := ⟨fuel - 1, by omega⟩
    have hx0 : x = 0 := by simpa using hx
    subst hx0
    have h4 : ¬ (i < 4) := by omega
    refine ⟨H, pre, ?_, Fr.refl _ _, by simp⟩
    rw [z_loop4]
    simp only [f47_l4]
    rw [show (SV.int .i64 4) = i64 4 from rfl, n_lss, decide_eq_false h4, z_guard, cond_false]
    simp only [f47_j5, z_cond, cond_false]
  | j + 1, i, x, fuel, H, pre, hij, hf, hx, hq, hlen => by
    obtain ⟨fuel, rfl⟩ : ∃ m, fuel = m + 1 := ⟨fuel - 1, by omega⟩
    have h4 : i < 4 := by omega
    have hxs : x < 10000 := Nat.lt_of_lt_of_le hx (Nat.pow_le_pow_right (n := 10) (by decide) (show j + 1 ≤ 4 by omega))
    by_cases h0 : m = 0 ∧ x = 0
    · obtain ⟨rfl, rfl⟩ := h0
      refine ⟨H, pre, ?_, Fr.refl _ _, by simp⟩
      have hl : ¬ ((rdigs 0).length > 0) := by rw [rdigs_zero]; simp
      have hz : ¬ (0 > 0) := by omega
      rw [z_loop4]
      simp only [f47_l4]
      rw [show (SV.int .i64 4) = i64 4 from rfl, n_lss, decide_eq_true h4, z_guard, cond_true, rlen hq, show (SV.int .i64 0) = i64 0 from rfl, n_gtr, decide_eq_false hl, z_guard, cond_false, show (SV.int .u64 0) = u64 0 from rfl, n_gtr, decide_eq_false hz]
      simp only [f47_j5, z_cond, cond_false]
    · have hP : x + 10 ^ (j + 1) * m = x + 10 * (10 ^ j * m) := by rw [Nat.pow_succ, Nat.mul_comm (10 ^ j) 10, Nat.mul_assoc]
      have hne : x + 10 ^ (j + 1) * m ≠ 0 := by
        intro e
        have h1 : x = 0 := by omega
        have h2 : 10 ^ (j + 1) * m = 0 := by omega
        rcases Nat.mul_eq_zero.1 h2 with h3 | h3
        · exact absurd h3 (Nat.ne_of_gt (Nat.pow_pos (by decide)))
        · exact h0 ⟨h3, h1⟩
      have hdl : decLE (x + 10 ^ (j + 1) * m) = x % 10 :: decLE (x / 10 + 10 ^ j * m) := by
        rw [decLE_pos hne, hP]
        rw [show (x + 10 * (10 ^ j * m)) % 10 = x % 10 by omega, show (x + 10 * (10 ^ j * m)) / 10 = x / 10 + 10 ^ j * m by omega]
      rw [hdl] at hlen
      have hd10 : x % 10 < 10 := Nat.mod_lt _ (by decide)
      obtain ⟨u, H1, hu, hou, hfu, _, _⟩ := z_lay1 (H := H) (lo := H.size) (Nat.le_refl _) (.int .u8 0) (x := u8 (48 + x % 10)) rfl
      have hpx : x / 10 < 10 ^ j := by
        rw [Nat.div_lt_iff_lt_mul (by decide), ← Nat.pow_succ]; exact hx
      rw [List.length_cons] at hlen
      obtain ⟨H2, pre', h5, f2, hp⟩ := rtext_in C K q k7 N hN j (i + 1) (x / 10) fuel H1 (pre ++ [x % 10]) (by omega) (by omega) hpx (hq.fr hfu) (by simp; omega)
      refine ⟨H2, pre', ?_, Frame.trans hfu f2, by rw [hp, hdl]; simp⟩
      have hs : [chr (x % 10)] ++ pre.reverse.map chr = (pre ++ [x % 10]).reverse.map chr := by simp
      have hm8 : (48 + x % 10) % 256 = 48 + x % 10 := Nat.mod_eq_of_lt (by omega)
      have hj : f47_j5 slow K C k7 (slow.loop4 (f47_l4 slow K C k7) fuel) (.str (pre.reverse.map chr)) q (u64 x) (i64 i) (.bool true) H = k7 q (.str (pre'.reverse.map chr)) H2 := by
        simp only [f47_j5, z_cond, cond_true]
        rw [show (SV.int .u64 10) = u64 10 from rfl, n_rem _ .u64 _ (by decide), show (SV.int .u64 48) = u64 48 from rfl, n_add64 _ (by omega), n_conv8, hm8, hu, z_str1 hou.arr hd10, z_sadd _ (by simp; omega), n_quo64 _ _ (by decide) (by omega), show (SV.int .i64 1) = i64 1 from rfl, n_addi _ (by omega), hs]
        exact h5
      rw [z_loop4]
      simp only [f47_l4]
      rw [show (SV.int .i64 4) = i64 4 from rfl, n_lss, decide_eq_true h4, z_guard, cond_true, rlen hq, show (SV.int .i64 0) = i64 0 from rfl, n_gtr]
      by_cases hm : (rdigs m).length > 0
      · rw [decide_eq_true hm, z_guard, cond_true]
        exact hj
      · have hx0 : x > 0 := by
          have : rdigs m = [] := List.length_eq_zero_iff.1 (by omega)
          have := rdigs_nil.1 this
          omega
        rw [decide_eq_false hm, z_guard, cond_false, show (SV.int .u64 0) = u64 0 from rfl, n_gtr, decide_eq_true hx0]
        exact hj
theorem rtext_out (K : Nat) (d : Nat) (N : Nat) (hN : N < 1000000000) (hK : 3000000 < K) {n : Nat} (hdec : (decLE n).length ≤ N) : ∀ (m fuel : Nat) (H : Heap) (v : SV) (pre : List Nat), (decLE m).length < fuel → IsR H v m → (rdigs m).length < 900000 → pre ++ decLE m = decLE n →
    ∃ H', slow.loop2 (f47_l2 slow K (runQ wk tab slow K (d + 4))) fuel v (.str (pre.reverse.map chr)) H = some (.str ((decLE n).reverse.map chr), H') ∧ Frame H H' := by
  intro m
  induction m using Nat.strongRecOn with
  | ind m ih =>
    intro fuel H v pre hf hv hl hpre
    obtain ⟨fuel, rfl⟩ : ∃ m, fuel = m + 1 := ⟨fuel - 1, by omega⟩
    rw [z_loop2]
    by_cases h0 : m = 0
    · subst h0
      rw [decLE_zero, List.append_nil] at hpre
      subst hpre
      have hz : ¬ ((rdigs 0).length > 0) := by rw [rdigs_zero]; simp
      refine ⟨H, ?_, Fr.refl _ _⟩
      simp only [f47_l2, rlen hv]
      rw [show (SV.int .i64 0) = i64 0 from rfl, n_gtr, decide_eq_false hz, z_cond, cond_false, z_rest_str]
    · have hpos : (rdigs m).length > 0 := List.length_pos_iff.2 fun e => h0 (rdigs_nil.1 e)
      obtain ⟨tv, H1, e1, f1, t1⟩ := rof_ok K (by omega) (d + 3) H (n := 10000) (by decide)
      have htl : (rdigs 10000).length ≤ 4 := rdigs_len64 (by decide)
      obtain ⟨qv, rv, H2, e2, f2, q2, r2⟩ := rdiv_ok K d H1 (hv.fr f1) t1 (by decide) hl (by omega) hK
      have hmod : m % 10000 < 10000 := Nat.mod_lt _ (by decide)
      have hrl : (rdigs (m % 10000)).length ≤ 4 := rdigs_len64 (by omega)
      have e3 := rsm_ok K (d + 3) H2 r2 hrl (by omega)
      have e10 : m % 10000 + 10 ^ 4 * (m / 10000) = m := Nat.mod_add_div m 10000
      obtain ⟨H3, pre', h5, f3, hp⟩ := rtext_in (runQ wk tab slow K (d + 4)) K qv (slow.loop2 (f47_l2 slow K (runQ wk tab slow K (d + 4))) fuel) N hN 4 0 (m % 10000) K H2 pre rfl (by omega) hmod q2 (by
        rw [e10, ← List.length_append, hpre]; exact hdec)
      rw [e10, hpre] at hp
      have hmlt : m / 10000 < m := Nat.div_lt_self (Nat.pos_of_ne_zero h0) (by decide)
      have hq : (decLE (m / 10000)).length < fuel := by
        have h1 := decLE_mono (show m / 10000 ≤ m / 10 by omega)
        rw [decLE_pos h0, List.length_cons] at hf
        omega
      have hql := rdigs_mono (Nat.le_of_lt hmlt)
      obtain ⟨H4, h6, f4⟩ := ih (m / 10000) hmlt fuel H3 qv pre' hq (q2.fr f3) (by omega) hp
      refine ⟨H4, ?_, Frame.trans f1 (Frame.trans f2 (Frame.trans f3 f4))⟩
      simp only [f47_l2, rlen hv]
      rw [show (SV.int .i64 0) = i64 0 from rfl, n_gtr, decide_eq_true hpos, z_cond, cond_true, show (SV.int .u64 10000) = u64 10000 from rfl, e1, z_call, e2, z_call, z_ext0, z_ext1, e3, z_call, z_ext0, z_ext1, h5]
      exact h6
theorem rtext_ok (K : Nat) (d : Nat) (H : Heap) {v : SV} {n : Nat} (hv : IsR H v n) (hK : 3000000 < K) (hd : (decLE n).length < 3000000) (hl : (rdigs n).length < 900000) :
    ∃ H', runQ wk tab slow K (d + 5) 47 [v] H = some (.str (dec n), H') ∧ Frame H H' := by
  show ∃ H', f47 slow K (runQ wk tab slow K (d + 4)) v H = _ ∧ _
  simp only [f47, rlen hv]
  rw [show (SV.int .i64 0) = i64 0 from rfl, n_eql]
  by_cases h0 : n = 0
  · subst h0
    refine ⟨H, ?_, Fr.refl _ _⟩
    rw [rdigs_zero]
    simp only [List.length_nil, decide_true, z_cond, cond_true]
    rfl
  · have hne : ¬ ((rdigs n).length = 0) := fun e => h0 (rdigs_nil.1 (List.length_eq_zero_iff.1 e))
    rw [decide_eq_false hne, z_cond, cond_false]
    obtain ⟨H1, h1, f1⟩ := rtext_out K d (decLE n).length (by omega) hK (Nat.le_refl _) n K H v [] (by omega) hv hl (by simp)
    refine ⟨H1, ?_, f1⟩
    have e : dec n = (decLE n).reverse.map chr := by rw [dec, if_neg h0]
    rw [e]
    exact h1
/-- A whole number, as the reference holds it. -/
def IsRZ (H : Heap) (v : SV) (z : Int) : Prop := ∃ s, v = .agg [.bool (decide (z < 0)), .slice s] ∧ IsR H (.slice s) z.natAbs
theorem IsRZ.fr {H H' : Heap} {v : SV} {z : Int} (h : IsRZ H v z) (hf : Frame H H') : IsRZ H' v z := by
  obtain ⟨s, h1, h2⟩ := h
  exact ⟨s, h1, Arr.fr h2 hf⟩
theorem z_build2s (b : Bool) (s : Sl) (k : K1) : slow.build [.bool false, .slice nilSl] [(0, 1), (1, 1)] [.bool b, .slice s] k = k (.agg [.bool b, .slice s]) := rfl
theorem rztext_ok (K : Nat) (d : Nat) (H : Heap) {v : SV} {z : Int} (hv : IsRZ H v z) (hK : 3000000 < K) (hd : (decLE z.natAbs).length < 2000000) (hl : (rdigs z.natAbs).length < 900000) :
    ∃ H', runQ wk tab slow K (d + 6) 21 [v] H = some (.str (textZ z), H') ∧ Frame H H' := by
  obtain ⟨s, rfl, hr⟩ := hv
  obtain ⟨H1, h1, f1⟩ := rtext_ok K d H hr hK (by omega) hl
  show ∃ H', f21 slow K (runQ wk tab slow K (d + 5)) _ H = _ ∧ _
  refine ⟨H1, ?_, f1⟩
  have hr1 : IsR H1 (.slice s) z.natAbs := Arr.fr hr f1
  simp only [f21, z_bbox, z_lfld, z_lld0, z_lld1, h1, z_call, z_guard, rlen hr1]
  by_cases h : z < 0
  · have h5 := dec_len z.natAbs
    have hne : (rdigs z.natAbs).length > 0 := List.length_pos_iff.2 fun e => by have := rdigs_nil.1 e; omega
    rw [decide_eq_true h, cond_true, show (SV.int .i64 0) = i64 0 from rfl, n_gtr, decide_eq_true hne]
    simp only [f21_j1, z_cond, cond_true, f21_j2]
    rw [z_sadd _ (by simp; omega), z_rest_str]
    simp [textZ, h]
  · rw [decide_eq_false h, cond_false]
    simp only [f21_j1, z_cond, cond_false, f21_j2, z_rest_str]
    simp [textZ, h]
end Go.Sh.Of
namespace Go.Sh.Of
open Go

/-- A list stays where only rows change in which its first cell does not lie. -/
theorem Arr.keepG {H H' : Heap} {v : SV} {cs : List SV} (h : Arr H v cs) {X : Nat → Prop} (hX : ∀ c0 ∈ cs, ∀ r row, X r → H.get r = some row → ∀ c ∈ row.cells, c ≠ c0) (hro : ∀ r, ¬ X r → r < H.size → H'.get r = H.get r) : Arr H' v cs := by
  obtain ⟨s, rfl, h2, h3⟩ := h
  refine ⟨s, rfl, h2, ?_⟩
  rcases h3 with h3 | ⟨r, o, row, b1, b2, b3, b4⟩
  · exact .inl h3
  · cases cs with
    | nil => left; rfl
    | cons c cs =>
      right
      have h0 := b4 0 c rfl
      have hne : ¬ X r := fun hx => hX c (by simp) r row hx b2 _ (List.mem_of_getElem? h0) rfl
      exact ⟨r, o, row, b1, by rw [hro r hne (Heap.get_lt b2)]; exact b2, b3, b4⟩
theorem IsRZ.keep {H H' : Heap} {v : SV} {z : Int} (h : IsRZ H v z) {X : Nat → Prop} (hX : ∀ r row, X r → H.get r = some row → ∀ c ∈ row.cells, ∀ n, c ≠ .int .u32 n) (hro : ∀ r, ¬ X r → r < H.size → H'.get r = H.get r) : IsRZ H' v z := by
  obtain ⟨s, rfl, ha⟩ := h
  refine ⟨s, rfl, Arr.keepG ha (fun c0 hc0 r row hx hg c hc => ?_) hro⟩
  obtain ⟨d, _, rfl⟩ := List.mem_map.1 hc0
  exact hX r row hx hg c hc _
theorem IsInt.keepU {H H' : Heap} {v : SV} {z : Int} (h : IsInt H v z) {X : Nat → Prop} (hX : ∀ r row, X r → H.get r = some row → ∀ c ∈ row.cells, ∀ n, c ≠ .int .u32 n) (hro : ∀ r, ¬ X r → r < H.size → H'.get r = H.get r) : IsInt H' v z := by
  obtain ⟨sl, rfl, ha, hf⟩ := h
  refine ⟨sl, rfl, Arr.keepG ha (fun c0 hc0 r row hx hg c hc => ?_) hro, hf⟩
  obtain ⟨d, _, rfl⟩ := List.mem_map.1 hc0
  exact hX r row hx hg c hc _
/-- A list of the reference's numbers. -/
def IsRZs (H : Heap) (v : SV) (zs : List Int) : Prop := ∃ els, ArrS 2 H v els ∧ els.length = zs.length ∧ ∀ (i : Nat) e z, els[i]? = some e → zs[i]? = some z → IsRZ H (.agg e) z
theorem IsRZs.fr {H H' : Heap} {v : SV} {zs : List Int} (h : IsRZs H v zs) (hf : Frame H H') : IsRZs H' v zs := by
  obtain ⟨els, h1, h2, h3⟩ := h
  exact ⟨els, h1.fr hf, h2, fun i e z he hz => (h3 i e z he hz).fr hf⟩
theorem IsRZs.len {H : Heap} {v : SV} {zs : List Int} (h : IsRZs H v zs) (k : K1) : slow.len v k = k (i64 zs.length) := by
  obtain ⟨els, h1, h2, h3⟩ := h
  rw [h1.len, h2]
theorem IsRZs.slice {H : Heap} {v : SV} {zs : List Int} (h : IsRZs H v zs) : isSlice v := by
  obtain ⟨els, ⟨s, rfl, h1, _⟩, h2, h3⟩ := h
  trivial
theorem IsRZs.load {H : Heap} {v : SV} {zs : List Int} (h : IsRZs H v zs) {i : Nat} {z : Int} (hz : zs[i]? = some z) : ∃ x, (∀ kd k, slow.idx 2 v (.int kd i) (fun p => slow.load 2 true p H k) = k x) ∧ IsRZ H x z := by
  obtain ⟨els, h1, h2, h3⟩ := h
  have hi := (List.getElem?_eq_some_iff.1 hz).1
  obtain ⟨e, he⟩ : ∃ e, els[i]? = some e := ⟨_, List.getElem?_eq_getElem (by omega)⟩
  exact ⟨_, fun kd k => h1.load (by decide) he kd k, h3 i e z he hz⟩
/-- Numbers stay where their own row stays, and only rows without digits change. -/
theorem IsRZs.keep {H H' : Heap} {v : SV} {zs : List Int} (h : IsRZs H v zs) {X : Nat → Prop} (hv : ∀ r, inRow v r → ¬ X r) (hX : ∀ r row, X r → H.get r = some row → ∀ c ∈ row.cells, ∀ n, c ≠ .int .u32 n) (hro : ∀ r, ¬ X r → r < H.size → H'.get r = H.get r) : IsRZs H' v zs := by
  obtain ⟨els, h1, h2, h3⟩ := h
  refine ⟨els, ?_, h2, fun i e z he hz => (h3 i e z he hz).keep hX hro⟩
  obtain ⟨s, rfl, g1, g0, g3⟩ := h1
  refine ⟨s, rfl, g1, g0, ?_⟩
  rcases g3 with g3 | ⟨r, o, row, b1, b2, b3, b4⟩
  · exact .inl g3
  · exact .inr ⟨r, o, row, b1, by rw [hro r (hv r ⟨s, o, rfl, b1⟩) (Heap.get_lt b2)]; exact b2, b3, b4⟩
theorem IsZs.keepU {H H' : Heap} {v : SV} {zs : List Int} (h : IsZs H v zs) {X : Nat → Prop} (hv : ∀ r, inRow v r → ¬ X r) (hX : ∀ r row, X r → H.get r = some row → ∀ c ∈ row.cells, ∀ n, c ≠ .int .u32 n) (hro : ∀ r, ¬ X r → r < H.size → H'.get r = H.get r) : IsZs H' v zs := by
  obtain ⟨els, h1, h2, h3⟩ := h
  refine ⟨els, ?_, h2, fun i e z he hz => (h3 i e z he hz).keepU hX hro⟩
  obtain ⟨s, rfl, g1, g0, g3⟩ := h1
  refine ⟨s, rfl, g1, g0, ?_⟩
  rcases g3 with g3 | ⟨r, o, row, b1, b2, b3, b4⟩
  · exact .inl g3
  · exact .inr ⟨r, o, row, b1, by rw [hro r (hv r ⟨s, o, rfl, b1⟩) (Heap.get_lt b2)]; exact b2, b3, b4⟩
theorem Arr.keepV {H H' : Heap} {v : SV} {cs : List SV} (h : Arr H v cs) {X : Nat → Prop} (hv : ∀ r, inRow v r → ¬ X r) (hro : ∀ r, ¬ X r → r < H.size → H'.get r = H.get r) : Arr H' v cs := by
  obtain ⟨s, rfl, h2, h3⟩ := h
  refine ⟨s, rfl, h2, ?_⟩
  rcases h3 with h3 | ⟨r, o, row, b1, b2, b3, b4⟩
  · exact .inl h3
  · exact .inr ⟨r, o, row, b1, by rw [hro r (hv r ⟨s, o, rfl, b1⟩) (Heap.get_lt b2)]; exact b2, b3, b4⟩
theorem IsRZ.cell {H : Heap} {e : List SV} {z : Int} (h : IsRZ H (.agg e) z) : zCell e := by
  obtain ⟨s, e1, _⟩ := h
  cases e1
  exact ⟨_, _, rfl⟩
theorem IsRZs.keepS {H H' : Heap} {v : SV} {zs : List Int} (h : IsRZs H v zs) {X : Nat → Prop} (hX : ∀ r row, X r → H.get r = some row → ∀ c ∈ row.cells, isSlice c) (hro : ∀ r, ¬ X r → r < H.size → H'.get r = H.get r) : IsRZs H' v zs := by
  obtain ⟨els, h1, h2, h3⟩ := h
  refine ⟨els, ?_, h2, fun i e z he hz => (h3 i e z he hz).keep (fun r row hx hg c hc n => isSlice_not_int (hX r row hx hg c hc) _ n) hro⟩
  obtain ⟨s, rfl, g1, g0, g3⟩ := h1
  refine ⟨s, rfl, g1, g0, ?_⟩
  rcases g3 with g3 | ⟨r, o, row, b1, b2, b3, b4⟩
  · exact .inl g3
  · cases els with
    | nil => left; rfl
    | cons e els =>
      right
      obtain ⟨z, hz⟩ : ∃ z, zs[0]? = some z := ⟨_, List.getElem?_eq_getElem (by simp at h2; omega)⟩
      obtain ⟨b, s', rfl⟩ := (h3 0 e z rfl hz).cell
      have h0 := b4 0 _ rfl 0 _ rfl
      have hne : ¬ X r := fun hx => hX r row hx b2 _ (List.mem_of_getElem? h0)
      exact ⟨r, o, row, b1, by rw [hro r hne (Heap.get_lt b2)]; exact b2, b3, b4⟩
/-- Rows of the reference's numbers; no row of the heap that holds them lies below lo. -/
def IsRRows (lo : Nat) (H : Heap) (v : SV) (rows : List (List Int)) : Prop := ∃ ws, Arr H v ws ∧ ws.length = rows.length ∧ (∀ r, inRow v r → lo ≤ r) ∧ ∀ (i : Nat) w zs, ws[i]? = some w → rows[i]? = some zs → IsRZs H w zs ∧ ∀ r, inRow w r → lo ≤ r
theorem IsRRows.fr {lo : Nat} {H H' : Heap} {v : SV} {rows : List (List Int)} (h : IsRRows lo H v rows) (hf : Frame H H') : IsRRows lo H' v rows := by
  obtain ⟨ws, h1, h2, h0, h3⟩ := h
  exact ⟨ws, h1.fr hf, h2, h0, fun i w zs hw hz => ⟨(h3 i w zs hw hz).1.fr hf, (h3 i w zs hw hz).2⟩⟩
theorem IsRRows.nil (lo : Nat) (H : Heap) : IsRRows lo H (.slice nilSl) [] := ⟨[], Arr.nil H, rfl, fun r hr => absurd hr (not_inRow_nil r), fun i w zs hw => by simp at hw⟩
theorem IsRRows.len {lo : Nat} {H : Heap} {v : SV} {rows : List (List Int)} (h : IsRRows lo H v rows) (k : K1) : slow.len v k = k (i64 rows.length) := by
  obtain ⟨ws, h1, h2, h3⟩ := h
  rw [h1.len, h2]
theorem IsRRows.load {lo : Nat} {H : Heap} {v : SV} {rows : List (List Int)} (h : IsRRows lo H v rows) {i : Nat} {zs : List Int} (hz : rows[i]? = some zs) : ∃ w, (∀ kd k, slow.idx 1 v (.int kd i) (fun p => slow.load 1 false p H k) = k w) ∧ IsRZs H w zs := by
  obtain ⟨ws, h1, h2, h0, h3⟩ := h
  have hi := (List.getElem?_eq_some_iff.1 hz).1
  obtain ⟨w, hw⟩ : ∃ w, ws[i]? = some w := ⟨_, List.getElem?_eq_getElem (by omega)⟩
  exact ⟨w, fun kd k => h1.load hw kd k, (h3 i w zs hw hz).1⟩
theorem IsRRows.keep {lo : Nat} {H H' : Heap} {v : SV} {rows : List (List Int)} (h : IsRRows lo H v rows) {X : Nat → Prop} (hlo : ∀ r, X r → r < lo) (hX : ∀ r row, X r → H.get r = some row → ∀ c ∈ row.cells, ∀ n, c ≠ .int .u32 n) (hro : ∀ r, ¬ X r → r < H.size → H'.get r = H.get r) : IsRRows lo H' v rows := by
  obtain ⟨ws, h1, h2, h0, h3⟩ := h
  refine ⟨ws, Arr.keepV h1 (fun r hr hx => ?_) hro, h2, h0, fun i w zs hw hz => ⟨(h3 i w zs hw hz).1.keep (fun r hr hx => ?_) hX hro, (h3 i w zs hw hz).2⟩⟩
  · have := h0 r hr; have := hlo r hx; omega
  · have := (h3 i w zs hw hz).2 r hr; have := hlo r hx; omega
/-- Fits. -/
theorem rfits_ok (K : Nat) (d : Nat) (H : Heap) (n m : Nat) :
    runQ wk tab slow K (d + 1) 73 [i64 n, i64 m] H = some (.bool (decide (n = 0) || (decide (n ≤ 16) && (decide (1 ≤ m) && decide (m ≤ 16)))), H) := by
  show f73 slow K (runQ wk tab slow K d) (i64 n) (i64 m) H = _
  simp only [f73]
  rw [show (SV.int .i64 0) = i64 0 from rfl, n_eql, z_guard]
  by_cases h0 : n = 0
  · rw [decide_eq_true h0, cond_true]
    simp only [f73_j1, z_rest_bool, Bool.true_or]
  · rw [decide_eq_false h0, cond_false, show (SV.int .i64 16) = i64 16 from rfl, n_leq, z_guard]
    by_cases h1 : n ≤ 16
    · rw [decide_eq_true h1, cond_true, show (SV.int .i64 1) = i64 1 from rfl, n_geq, z_guard]
      by_cases h2 : 1 ≤ m
      · rw [decide_eq_true (show m ≥ 1 from h2), cond_true, n_leq]
        simp only [f73_j1, z_rest_bool, Bool.false_or, Bool.true_and, decide_eq_true h2]
      · rw [decide_eq_false (show ¬ m ≥ 1 from h2), cond_false]
        simp only [f73_j1, z_rest_bool, Bool.false_or, Bool.true_and, Bool.false_and, decide_eq_false h2]
    · rw [decide_eq_false h1, cond_false]
      simp only [f73_j1, z_rest_bool, Bool.false_or, Bool.false_and]
end Go.Sh.Of
namespace Go.Sh.Of
open Go

theorem big_dec {z : Int} (h : z.natAbs < 2 ^ 4096) : (decLE z.natAbs).length ≤ 4096 := dec_bits h
theorem pow_D {m k : Nat} (h : 16 * m = k) : D ^ m = 2 ^ k := by
  subst h
  rw [Nat.pow_mul]
  rfl
theorem big_rd {n : Nat} (h : n < 2 ^ 4096) : (rdigs n).length ≤ 256 := rdigs_len_le (k := 256) (by
  rw [pow_D (k := 4096) rfl]; exact h)
theorem rtell_in (K : Nat) (hK : 3000000 < K) (d : Nat) {lo0 : Nat} {H0 Hi : Heap} (h0i : Frame H0 Hi) {v : SV} {rows : List (List Int)} (hv : IsRRows lo0 H0 v rows) {i : Nat} {zs : List Int} (hz : rows[i]? = some zs) (hzl : zs.length ≤ 100) (hbig : ∀ z ∈ zs, z.natAbs < 2 ^ 4096) {lo : Nat} {out : SV} {ws : List SV} (ho : Own lo Hi out ws) (hlo : lo ≤ Hi.size) (hwl : ws.length < 100000) (hws : ∀ w ∈ ws, isSlice w) (hi : i < 100000) (k5 : SV → SV → SV → Heap → Rs) : ∀ (m j fuel : Nat) (H : Heap) (t : SV), j + m = zs.length → m < fuel → Frame Hi H → Own Hi.size H t (strs ((zs.take j).map textZ)) →
    ∃ out' H' t', slow.loop5 (f29_l3 slow K (runQ wk tab slow K (d + 6)) k5) fuel v out (i64 i) t (i64 j) H = k5 v out' (i64 (i + 1)) H' ∧ Fr lo Hi H' ∧ (∀ r, ¬ inRow out r → r < Hi.size → H'.get r = Hi.get r) ∧ Own lo H' out' (ws ++ [t']) ∧ Arr H' t' (strs (zs.map textZ))
  | 0, j, fuel, H, t, hjm, hf, hfr, ht => by
    obtain ⟨fuel, rfl⟩ : ∃ m, fuel = m + 1 := ⟨fuel - 1, by omega⟩
    have hj : j = zs.length := by omega
    subst hj
    rw [List.take_length] at ht
    obtain ⟨w, hw, ha⟩ := (hv.fr (Frame.trans h0i hfr)).load hz
    obtain ⟨out', H2, hp, ho2, hf2, hrw⟩ := push1 (ho.fr hfr) (Nat.le_trans hlo hfr.size) (.slice nilSl) (x := t) ht.arr.flat (by_ := 24) (roomy_small (by omega))
    refine ⟨out', H2, t, ?_, (hfr.mono hlo).trans hf2, fun r hn hlt => by rw [hrw r hn (Nat.lt_of_lt_of_le hlt hfr.size), hfr.rows r hlt], ho2, ?_⟩
    · rw [z_loop5]
      have hlt : ¬ zs.length < zs.length := Nat.lt_irrefl _
      simp only [f29_l3, hw, ha.len, n_lss, decide_eq_false hlt, z_cond, cond_false, hp]
      rw [show (SV.int .i64 1) = i64 1 from rfl, n_addi _ (by omega)]
    · exact Arr.keep ht.arr (fun c hc => by
        obtain ⟨s, _, rfl⟩ := List.mem_map.1 hc
        exact id) (X := fun r => inRow out r) (fun r rw hr hg c hc => by rw [Own.cells (ho.fr hfr) hr hg] at hc; exact hws c hc) hrw
  | m + 1, j, fuel, H, t, hjm, hf, hfr, ht => by
    obtain ⟨fuel, rfl⟩ : ∃ m, fuel = m + 1 := ⟨fuel - 1, by omega⟩
    have hlt : j < zs.length := by omega
    obtain ⟨z, hz1⟩ : ∃ z, zs[j]? = some z := ⟨_, List.getElem?_eq_getElem hlt⟩
    have hzb := hbig z (List.mem_of_getElem? hz1)
    obtain ⟨w, hw, ha⟩ := (hv.fr (Frame.trans h0i hfr)).load hz
    obtain ⟨x, hld, hint⟩ := ha.load hz1
    have b1 := big_dec hzb
    have b2 := big_rd hzb
    obtain ⟨H1, h1, f1⟩ := rztext_ok K d H hint hK (by omega) (by omega)
    obtain ⟨t', H2, hp, ht2, hf2, _⟩ := push1 (ht.fr f1) (Nat.le_trans hfr.size f1.size) (.str []) (x := .str (textZ z)) rfl (by_ := 16) (roomy_small (by simp; omega))
    have e1 : strs ((zs.take j).map textZ) ++ [SV.str (textZ z)] = strs ((zs.take (j + 1)).map textZ) := by
      rw [List.take_add_one, hz1]; simp [strs]
    rw [e1] at ht2
    obtain ⟨out', H3, t'', h3, f3, hrw3, ho3, ha3⟩ := rtell_in K hK d h0i hv hz hzl hbig ho hlo hwl hws hi k5 m (j + 1) fuel H2 t' (by omega) (by omega) (Fr.trans (Frame.trans hfr f1) hf2) ht2
    refine ⟨out', H3, t'', ?_, f3, hrw3, ho3, ha3⟩
    rw [z_loop5]
    simp only [f29_l3, hw, ha.len, n_lss, decide_eq_true hlt, z_cond, cond_true, hld, h1, z_call, hp]
    rw [show (SV.int .i64 1) = i64 1 from rfl, n_addi _ (by omega)]
    exact h3
theorem rtell_out (K : Nat) (hK : 3000000 < K) (d : Nat) {lo0 : Nat} {H0 : Heap} {v : SV} {rows : List (List Int)} (hv : IsRRows lo0 H0 v rows) (hbig : BigOk rows) (hrl : rows.length < 100000) : ∀ (m i fuel : Nat) (H : Heap) (out : SV) (ws : List SV), i + m = rows.length → m < fuel → Frame H0 H → Own H0.size H out ws → ws.length = i → (∀ w ∈ ws, isSlice w) → (∀ (q : Nat) (w : SV) (zs : List Int), ws[q]? = some w → rows[q]? = some zs → Arr H w (strs (zs.map textZ))) →
    ∃ r H', slow.loop3 (f29_l1 slow K (runQ wk tab slow K (d + 6))) fuel v out (i64 i) H = some (r, H') ∧ Frame H0 H' ∧ IsTexts H' r (textRows rows)
  | 0, i, fuel, H, out, ws, him, hf, hfr, ho, hwl, hws, hdone => by
    obtain ⟨fuel, rfl⟩ : ∃ m, fuel = m + 1 := ⟨fuel - 1, by omega⟩
    have hi : i = rows.length := by omega
    refine ⟨out, H, ?_, hfr, ws, ho.arr, by simp [textRows, hwl, hi], fun q w cs hw hc => ?_⟩
    · rw [z_loop3]
      have hlt : ¬ i < rows.length := by omega
      simp only [f29_l1, (hv.fr hfr).len, n_lss, decide_eq_false hlt, z_cond, cond_false, z_rest ho.arr.good]
    · simp only [textRows, List.map_map, List.getElem?_map, Option.map_eq_some_iff] at hc
      obtain ⟨zs, hz, rfl⟩ := hc
      exact hdone q w zs hw hz
  | m + 1, i, fuel, H, out, ws, him, hf, hfr, ho, hwl, hws, hdone => by
    obtain ⟨fuel, rfl⟩ : ∃ m, fuel = m + 1 := ⟨fuel - 1, by omega⟩
    have hlt : i < rows.length := by omega
    obtain ⟨zs, hz⟩ : ∃ zs, rows[i]? = some zs := ⟨_, List.getElem?_eq_getElem hlt⟩
    obtain ⟨hb1, hb2⟩ := hbig zs (List.mem_of_getElem? hz)
    obtain ⟨out', H1, t', h1, f1, hrw1, ho1, ha1⟩ := rtell_in K hK d (H0 := H0) (Hi := H) hfr hv hz hb1 hb2 ho hfr.size (by omega) hws (by omega) (slow.loop3 (f29_l1 slow K (runQ wk tab slow K (d + 6))) fuel) zs.length 0 K H (.slice nilSl) (by omega) (by omega) (Fr.refl _ _) (by simpa using Own.nil H.size H)
    have hs' : isSlice t' := Arr.isSlice ha1
    obtain ⟨r, H2, h2, f2, ht⟩ := rtell_out K hK d hv hbig hrl m (i + 1) fuel H1 out' (ws ++ [t']) (by omega) (by omega) (Fr.trans hfr f1) ho1 (by simp [hwl]) (fun q hq => by
      rcases List.mem_append.1 hq with hq | hq
      · exact hws q hq
      · rw [List.mem_singleton.1 hq]; exact hs') (fun q u zs' hu hz' => by
        by_cases hq : q < ws.length
        · rw [List.getElem?_append_left hq] at hu
          exact Arr.keep (hdone q u zs' hu hz') (fun c hc => by
            obtain ⟨s, _, rfl⟩ := List.mem_map.1 hc
            exact id) (X := fun r => inRow out r) (fun r rw hr hg c hc => by rw [Own.cells ho hr hg] at hc; exact hws c hc) hrw1
        · have hq2 : q = ws.length := by have := (List.getElem?_eq_some_iff.1 hu).1; simp at this; omega
          subst hq2
          simp at hu
          subst hu
          rw [hwl, hz] at hz'
          cases hz'
          exact ha1)
    refine ⟨r, H2, ?_, f2, ht⟩
    rw [z_loop3]
    simp only [f29_l1, (hv.fr hfr).len, n_lss, decide_eq_true hlt, z_cond, cond_true]
    rw [show (SV.int .i64 0) = i64 0 from rfl, h1]
    exact h2
theorem rtell_ok (K : Nat) (hK : 3000000 < K) (d : Nat) (H : Heap) {lo0 : Nat} {v : SV} {rows : List (List Int)} (hv : IsRRows lo0 H v rows) (hbig : BigOk rows) (hrl : rows.length < 100000) :
    ∃ r H', runQ wk tab slow K (d + 7) 29 [v] H = some (r, H') ∧ Frame H H' ∧ IsTexts H' r (textRows rows) := by
  exact rtell_out K hK d hv hbig hrl rows.length 0 K H (.slice nilSl) [] (by omega) (by omega) (Fr.refl _ _) (Own.nil _ _) rfl (fun w hw => by cases hw) (fun q w zs hw => by simp at hw)
/-! ### rows, same: two lists of rows of texts that are the same -/
theorem rows_in (C : CallC) (K : Nat) {H : Heap} {v w : SV} {rows : List (List (List UInt8))} (hv : IsTexts H v rows) (hw : IsTexts H w rows) {i : Nat} {r : List (List UInt8)} (hr : rows[i]? = some r) (hi : i < 100000) (hrl : r.length < 100000) (n : Nat) (k11 : SV → SV → SV → SV → Heap → Rs) : ∀ (m j fuel : Nat), j + m = r.length → m < fuel →
    slow.loop7 (f28_l5 slow K C k11) fuel v w (i64 i) (i64 n) (i64 i) (i64 r.length) (i64 j) H = k11 v w (i64 n) (i64 (i + 1)) H
  | 0, j, fuel, hjm, hf => by
    obtain ⟨fuel, rfl⟩ : ∃ m, fuel = m + 1 := ⟨fuel - 1, by omega⟩
    have hlt : ¬ j < r.length := by omega
    rw [z_loop7]
    simp only [f28_l5, n_lss, decide_eq_false hlt, z_cond, cond_false]
    rw [show (SV.int .i64 1) = i64 1 from rfl, n_addi _ (by omega)]
  | m + 1, j, fuel, hjm, hf => by
    obtain ⟨fuel, rfl⟩ : ∃ m, fuel = m + 1 := ⟨fuel - 1, by omega⟩
    have hlt : j < r.length := by omega
    obtain ⟨s, hs⟩ : ∃ s, r[j]? = some s := ⟨_, List.getElem?_eq_getElem hlt⟩
    obtain ⟨a, la, aa⟩ := hv.load (i := i) (cs := strs r) (by simp [hr])
    obtain ⟨b, lb, ab⟩ := hw.load (i := i) (cs := strs r) (by simp [hr])
    rw [z_loop7]
    simp only [f28_l5, n_lss, decide_eq_true hlt, z_cond, cond_true, la, lb, aa.load (strs_get hs), ab.load (strs_get hs), z_sneq, beq_self_eq_true, Bool.not_true, cond_false]
    rw [show (SV.int .i64 1) = i64 1 from rfl, n_addi _ (by omega)]
    exact rows_in C K hv hw hr hi hrl n k11 m (j + 1) fuel (by omega) (by omega)
theorem rows_out (C : CallC) (K : Nat) {H : Heap} {v w : SV} {rows : List (List (List UInt8))} (hv : IsTexts H v rows) (hw : IsTexts H w rows) (hl : rows.length < 100000) (hrl : ∀ r ∈ rows, r.length < K ∧ r.length < 100000) : ∀ (m i fuel : Nat), i + m = rows.length → m < fuel →
    slow.loop4 (f28_l2 slow K C) fuel v w (i64 rows.length) (i64 i) H = some (.bool true, H)
  | 0, i, fuel, him, hf => by
    obtain ⟨fuel, rfl⟩ : ∃ m, fuel = m + 1 := ⟨fuel - 1, by omega⟩
    have hlt : ¬ i < rows.length := by omega
    rw [z_loop4]
    simp only [f28_l2, n_lss, decide_eq_false hlt, z_cond, cond_false]
  | m + 1, i, fuel, him, hf => by
    obtain ⟨fuel, rfl⟩ : ∃ m, fuel = m + 1 := ⟨fuel - 1, by omega⟩
    have hlt : i < rows.length := by omega
    obtain ⟨r, hr⟩ : ∃ r, rows[i]? = some r := ⟨_, List.getElem?_eq_getElem hlt⟩
    have hrm := hrl r (List.mem_of_getElem? hr)
    obtain ⟨a, la, aa⟩ := hv.load (i := i) (cs := strs r) (by simp [hr])
    obtain ⟨b, lb, ab⟩ := hw.load (i := i) (cs := strs r) (by simp [hr])
    have la1 : ∀ k, slow.len a k = k (i64 r.length) := fun k => by rw [aa.len]; simp
    have lb1 : ∀ k, slow.len b k = k (i64 r.length) := fun k => by rw [ab.len]; simp
    have hne : ¬ (r.length ≠ r.length) := fun h => h rfl
    rw [z_loop4]
    simp only [f28_l2, n_lss, decide_eq_true hlt, z_cond, cond_true, la, lb, la1, lb1, n_neq, decide_eq_false hne, cond_false]
    rw [show (SV.int .i64 0) = i64 0 from rfl, rows_in C K hv hw hr (by omega) hrm.2 rows.length _ r.length 0 K (by omega) hrm.1]
    exact rows_out C K hv hw hl hrl m (i + 1) fuel (by omega) (by omega)
theorem rows_ok (K : Nat) (d : Nat) (H : Heap) {v w : SV} {rows : List (List (List UInt8))} (hv : IsTexts H v rows) (hw : IsTexts H w rows) (hK : 100000 < K) (hl : rows.length < 100000) (hrl : ∀ r ∈ rows, r.length < 100000) :
    runQ wk tab slow K (d + 1) 28 [v, w] H = some (.bool true, H) := by
  show f28 slow K (runQ wk tab slow K d) v w H = _
  have l1 : ∀ k, slow.len v k = k (i64 rows.length) := fun k => by rw [hv.len]; simp
  have l2 : ∀ k, slow.len w k = k (i64 rows.length) := fun k => by rw [hw.len]; simp
  have hne : ¬ (rows.length ≠ rows.length) := fun h => h rfl
  simp only [f28, l1, l2, n_neq, decide_eq_false hne, z_cond, cond_false]
  exact rows_out _ K hv hw hl (fun r hr => ⟨by have := hrl r hr; omega, hrl r hr⟩) rows.length 0 K (by omega) (by omega)
/-- same: both are refused with one error, the matrix empty; or both are the same matrix. -/
theorem same_err (K : Nat) (hK : 100000 < K) (d : Nat) (H : Heap) {v w : SV} {e : Int} (he : e ≠ 0) (hv : IsMat H v []) :
    ∃ H', runQ wk tab slow K (d + 5) 15 [v, .int .i64 e, w, .int .i64 e] H = some (.bool true, H') ∧ Frame H H' := by
  obtain ⟨r, H1, h1, f1, t1⟩ := mtext_ok K hK d H hv (fun r hr => by cases hr) (by simp)
  obtain ⟨x, rfl, hx⟩ := hv
  have hl : ∀ k, slow.len r k = k (i64 0) := fun k => by rw [t1.len]; rfl
  refine ⟨H1, ?_, f1⟩
  show f15 slow K (runQ wk tab slow K (d + 4)) _ _ _ _ H = _
  have hne : (e != 0) = true := by rw [bne_iff_ne]; exact he
  simp only [f15, z_bbox, z_neq, hne, z_cond, cond_true, z_eql, beq_self_eq_true, z_guard, z_lload1, h1, z_call, hl, f15_j1, z_rest_bool]
  rfl
theorem same_mat (K : Nat) (hK : 3000000 < K) (d : Nat) (H : Heap) {lo : Nat} {v w : SV} {rows : List (List Int)} (hv : IsMat H v rows) (hw : IsRRows lo H w rows) (hbig : BigOk rows) (hrl : rows.length < 100000) :
    ∃ H', runQ wk tab slow K (d + 8) 15 [v, .int .i64 0, w, .int .i64 0] H = some (.bool true, H') ∧ Frame H H' := by
  obtain ⟨r, H1, h1, f1, t1⟩ := mtext_ok K (by omega) (d + 3) H hv hbig hrl
  obtain ⟨r2, H2, h2, f2, t2⟩ := rtell_ok K hK d H1 (hw.fr f1) hbig hrl
  have h3 := rows_ok K (d + 6) H2 (t1.fr f2) t2 (by omega) (by simpa [textRows] using hrl) (fun q hq => by
    obtain ⟨zs, hz, rfl⟩ := List.mem_map.1 hq
    have := (hbig zs hz).1
    simp; omega)
  obtain ⟨x, rfl, hx⟩ := hv
  refine ⟨H2, ?_, Frame.trans f1 f2⟩
  show f15 slow K (runQ wk tab slow K (d + 7)) _ _ _ _ H = _
  simp only [f15, z_bbox, z_neq, bne_self_eq_false, z_cond, cond_false, z_eql, beq_self_eq_true, z_guard, cond_true, z_lload1, h1, z_call, h2, h3, f15_j3, z_rest_bool]
end Go.Sh.Of

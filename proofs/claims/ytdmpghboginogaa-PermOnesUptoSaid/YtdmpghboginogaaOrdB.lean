/- Contracts of the layer perm: Order. -/
import Derived.Test.YtdmpghboginogaaOrdA
import Derived.Test.YtdmpghboginogaaCycB
set_option linter.unusedVariables false
set_option linter.unusedSimpArgs false
namespace Go.Sh.Of
open Go

/-- The least common multiple, one length behind the other. -/
def lcmF (m : Nat) : List Nat → Nat
  | [] => m
  | n :: l => lcmF (m * (n / Nat.gcd m n)) l
theorem pow_lt2 {i j : Nat} (h : i < j) : 2 ^ i < 2 ^ j := Nat.pow_lt_pow_right (by decide) h
theorem pow_4096 {j : Nat} (h : j < 4096) : 2 ^ j < 2 ^ 4096 := pow_lt2 (j := 4096) h
theorem lt_4096 {m i : Nat} (hm : m ≤ 2 ^ (6 * i)) (hi : i < 600) : m < 2 ^ 4096 := by
  have h : 6 * i < 4096 := by omega
  exact Nat.lt_of_le_of_lt hm (pow_4096 h)
theorem small_4096 {n : Nat} (h : n ≤ 64) : n < 2 ^ 4096 := lt_4096 (i := 1) h (by decide)
theorem lcm_step {m n i : Nat} (hm : m ≤ 2 ^ (6 * i)) (hn : n ≤ 64) : m * (n / Nat.gcd m n) ≤ 2 ^ (6 * (i + 1)) := by
  have h1 : n / Nat.gcd m n ≤ 2 ^ 6 := Nat.le_trans (Nat.div_le_self _ _) hn
  have h2 : (2 : Nat) ^ (6 * (i + 1)) = 2 ^ (6 * i) * 2 ^ 6 := by rw [← Nat.pow_add]; rfl
  rw [h2]
  exact Nat.mul_le_mul hm h1
theorem lcmF_pos : ∀ {l : List Nat} {m : Nat}, 0 < m → (∀ n ∈ l, 0 < n) → 0 < lcmF m l
  | [], m, h, _ => h
  | n :: l, m, h, hl => by
    have hn : 0 < n := hl n (by simp)
    rw [lcmF]
    refine lcmF_pos (m := m * (n / Nat.gcd m n)) (Nat.mul_pos h (Nat.div_pos (Nat.gcd_le_right _ hn) (Nat.gcd_pos_of_pos_right _ hn))) fun x hx => hl x (by simp [hx])
theorem dec_small {n : Nat} (h : n < 2 ^ 4096) : (decLE n).length ≤ 4096 := decLE_len (Nat.lt_of_lt_of_le h (two_ten 4096))
theorem order_loop (K : Nat) (hK : 1000000 < K) (d : Nat) {H0 : Heap} {r : SV} {cs : List (List Nat)} {ws : List SV} (hr : Arr H0 r ws) (hwl : ws.length = cs.length) (hw : ∀ (q : Nat) w l, ws[q]? = some w → cs[q]? = some l → Arr H0 w (natsL l)) (hcl : cs.length ≤ 64) (hc : ∀ c ∈ cs, 0 < c.length ∧ c.length ≤ 64) : ∀ (rest : List (List Nat)) (i fuel : Nat) (H : Heap) (x : SV) (m : Nat), cs.drop i = rest → i + rest.length = cs.length → rest.length < fuel → Frame H0 H → IsNat H (.agg [x]) m → m ≤ 2 ^ (6 * i) →
    ∃ H', slow.loop4 (f14_l2 slow K (runQ wk tab slow K (d + 5))) fuel (.box [x]) r (i64 cs.length) (i64 i) H = some (.tuple [.str (dec (lcmF m (rest.map List.length))), .int .i64 0], H') ∧ Frame H0 H'
  | [], i, fuel, H, x, m, hd, hil, hf, hfr, hx, hmi => by
    obtain ⟨fuel, rfl⟩ : ∃ m, fuel = m + 1 := ⟨fuel - 1, by omega⟩
    have hi : ¬ i < cs.length := by simp at hil; omega
    have h600 : i < 600 := by simp at hil; omega
    have hdl := dec_small (lt_4096 hmi h600)
    have hgl := digs_len (lt_4096 hmi h600)
    obtain ⟨H1, h1, f1⟩ := text_ok K (d + 3) H hx (by omega) (by omega) (by omega) (by omega) (by omega)
    rw [show d + 3 + 2 = d + 5 from rfl] at h1
    refine ⟨H1, ?_, Frame.trans hfr f1⟩
    rw [z_loop4]
    simp only [f14_l2, n_lss, decide_eq_false hi, z_cond, cond_false, z_lload1, h1, z_call, z_rest_str]
    rfl
  | c :: rest, i, fuel, H, x, m, hd, hil, hf, hfr, hx, hmi => by
    obtain ⟨fuel, rfl⟩ : ∃ m, fuel = m + 1 := ⟨fuel - 1, by omega⟩
    obtain ⟨hcx, hd', hi, _⟩ := drop_cons hd
    obtain ⟨c0, c1⟩ := hc c (List.mem_of_getElem? hcx)
    obtain ⟨w, hw1⟩ : ∃ w, ws[i]? = some w := ⟨_, List.getElem?_eq_getElem (by omega)⟩
    have hwa := hw i w c hw1 hcx
    have hwn : ∀ k, slow.len w k = k (i64 c.length) := fun k => by rw [hwa.len, natsL_len]
    have h600 : i + 1 < 600 := by omega
    have hgl := digs_len (lt_4096 hmi (by omega))
    obtain ⟨n, hn⟩ : ∃ n, c.length = n := ⟨_, rfl⟩
    rw [hn] at c0 c1 hwn
    obtain ⟨vn, H1, h1, f1, n1⟩ := of_ok K (by omega) (d + 3) H (n := n) (by omega)
    rw [show d + 3 + 2 = d + 5 from rfl] at h1
    have n1' := n1
    obtain ⟨xn, rfl, _, _⟩ := n1
    obtain ⟨vg, H2, h2, f2, n2⟩ := gcd_ok K (by omega) d H1 (hx.fr f1) n1' (by omega) (by omega)
    have hg0 : 0 < Nat.gcd m n := Nat.gcd_pos_of_pos_right _ c0
    have hgB : Nat.gcd m n < B := Nat.lt_of_le_of_lt (Nat.gcd_le_right _ c0) (by unfold B; omega)
    have hdn : (digs n).length < 10000 := by
      have := digs_len (n := n) (small_4096 c1)
      omega
    obtain ⟨vq, vr, H3, h3, f3, n3, n4⟩ := div1_ok K (by omega) (d + 1) H2 (n1'.fr f2) n2 hg0 hgB hdn
    rw [show d + 1 + 4 = d + 5 from rfl] at h3
    have n3' := n3
    obtain ⟨xq, rfl, _, _⟩ := n3
    obtain ⟨xr, rfl, _, _⟩ := n4
    have hq64 : n / Nat.gcd m n ≤ 64 := Nat.le_trans (Nat.div_le_self _ _) c1
    have hstep := lcm_step (m := m) (n := n) (i := i) hmi c1
    have hlt := lt_4096 hstep (by omega)
    obtain ⟨vm, H4, h4, f4', n5⟩ := mul_nat_ok K (d + 1) H3 (((hx.fr f1).fr f2).fr f3) n3' (by omega) (lt_4096 hmi (by omega)) (small_4096 hq64)
    rw [show d + 1 + 4 = d + 5 from rfl, if_pos hlt] at h4
    rw [if_pos hlt] at n5
    have n5' := n5
    obtain ⟨xm, rfl, _, _⟩ := n5
    obtain ⟨H5, h5, f5⟩ := order_loop K hK d hr hwl hw hcl hc rest (i + 1) fuel H4 xm _ hd' (by simp at hil; omega) (by simp at hf; omega) (Frame.trans hfr (Frame.trans f1 (Frame.trans f2 (Frame.trans f3 f4')))) n5' hstep
    refine ⟨H5, ?_, f5⟩
    rw [z_loop4]
    simp only [f14_l2, n_lss, decide_eq_true hi, z_cond, cond_true, (hr.fr hfr).load hw1, hwn, n_conv64 _ .i64 n (by omega), h1, z_call, z_bst1, z_lload1, h2, h3, z_ext0, z_ext1, z_ext2, h4]
    rw [show (SV.int .i64 1) = i64 1 from rfl, n_addi _ (by omega), List.map_cons, lcmF, hn]
    exact h5
theorem cyc_pos {f : Nat → Nat} {i : Nat} {cs : List (List Nat)} (h : CycTo f i cs) : ∀ c ∈ cs, 0 < c.length := by
  induction h with
  | zero => intro c hc; cases hc
  | skip _ _ ih => exact ih
  | @add i cs c _ _ _ h ih =>
    intro d hd
    rcases List.mem_append.1 hd with hd | hd
    · exact ih d hd
    · rw [List.mem_singleton.1 hd]
      exact (List.getElem?_eq_some_iff.1 h.1).1
theorem cyc_le {p : List Int} (h0 : ckE p = 0) {cs : List (List Nat)} (hc : CycTo (fnI p) p.length cs) : ∀ c ∈ cs, c.length ≤ 64 := fun c hcm => by
  obtain ⟨a1, a2, a3⟩ := ck_fn h0
  have hci := hc.inv a2 a3 (Nat.le_refl _)
  have h64 := (ck_zero h0).1
  have := nodup_len (n := p.length) (flat_nodup hci.nd hcm) fun y hy => hci.lt y (List.mem_flatten.2 ⟨c, hcm, hy⟩)
  omega
theorem order_ok (K : Nat) (hK : 1000000 < K) (d : Nat) (H : Heap) {v : SV} {p : List Int} (hv : Arr H v (intsL .i64 p)) :
    ∃ s H', runQ wk tab slow K (d + 6) 14 [v] H = some (.tuple [.str s, .int .i64 (ckE p)], H') ∧ Frame H H' ∧ (ckE p = 0 → ∃ cs, CycTo (fnI p) p.length cs ∧ s = dec (lcmF 1 (cs.map List.length))) ∧ (ckE p ≠ 0 → s = []) := by
  obtain ⟨r, H1, h1, f1, g1, g2⟩ := cycles_ok K (by omega) (d + 3) H hv
  rw [show d + 3 + 2 = d + 5 from rfl] at h1
  show ∃ s H', f14 slow K (runQ wk tab slow K (d + 5)) v H = _ ∧ _
  simp only [f14, h1, z_call, z_ext0, z_ext1, z_neq]
  by_cases h0 : ckE p = 0
  · have hb : (ckE p != 0) = false := by simp [h0]
    obtain ⟨cs, ⟨ws, o1, o2, o3⟩, hc⟩ := g1 h0
    have h64 := (ck_zero h0).1
    have hcl := cyc_len hc
    obtain ⟨v1, H2, h2, f2, n2⟩ := of_ok K (by omega) (d + 3) H1 (n := 1) (by omega)
    rw [show d + 3 + 2 = d + 5 from rfl] at h2
    have n2' := n2
    obtain ⟨x1, rfl, _, _⟩ := n2
    obtain ⟨H3, h3, f3⟩ := order_loop K hK d (o1.arr.fr f2) o2 (fun q w l hw hl => (o3 q w l hw hl).arr.fr f2) (by omega) (fun c hcm => ⟨cyc_pos hc c hcm, cyc_le h0 hc c hcm⟩) cs 0 K H2 x1 1 rfl (by simp) (by omega) (Fr.refl _ _) n2' (by decide)
    have hrl : ∀ k, slow.len r k = k (i64 cs.length) := fun k => by rw [o1.arr.len, o2]
    refine ⟨_, H3, ?_, Frame.trans f1 (Frame.trans f2 f3), fun _ => ⟨cs, hc, rfl⟩, fun h => absurd h0 h⟩
    rw [h0]
    rw [show (u64 1) = (SV.int .u64 1) from rfl] at h2
    simp only [bne_self_eq_false, z_cond, cond_false, h2, z_call, z_bst1, hrl]
    rw [show (SV.int .i64 0) = i64 0 from rfl]
    exact h3
  · have hb : (ckE p != 0) = true := by simp [h0]
    simp only [hb, z_cond, cond_true, z_rest_int]
    exact ⟨_, H1, rfl, f1, fun h => absurd h h0, fun _ => rfl⟩
end Go.Sh.Of

/- What the reference tells of a list of points: the order. -/
import Derived.Test.YtdmpghboginogaaOneA
import Derived.Test.YtdmpghboginogaaRefX
set_option linter.unusedVariables false
set_option linter.unusedSimpArgs false
namespace Go.Sh.Of
open Go

theorem rgcd_loop (K : Nat) (hK : 3000000 < K) (d : Nat) {H0 : Heap} : ∀ (b fuel : Nat) (H : Heap) (x y : SV) (a : Nat), b < 1000000 → b < fuel → (rdigs a).length < 900000 → Frame H0 H → IsR H x a → IsR H y b →
    ∃ r H', slow.loop2 (f32_l1 slow K (runQ wk tab slow K (d + 4))) fuel x y H = some (r, H') ∧ Frame H0 H' ∧ IsR H' r (Nat.gcd a b) := by
  intro b
  induction b using Nat.strongRecOn with
  | ind b ih =>
    intro fuel H x y a hb hf ha hfr hx hy
    obtain ⟨fuel, rfl⟩ : ∃ m, fuel = m + 1 := ⟨fuel - 1, by omega⟩
    rw [z_loop2]
    by_cases h0 : b = 0
    · subst h0
      have e1 : ∀ k, slow.gtr (i64 (rdigs 0).length) (.int .i64 0) k = k (.bool false) := fun k => by rw [rdigs_zero, z_gtr]; rfl
      refine ⟨x, H, ?_, hfr, ?_⟩
      · simp only [f32_l1, rlen hy, e1, z_cond, cond_false, z_rest hx.good]
      · rw [Nat.gcd_zero_right]
        exact hx
    · have hb0 : 0 < b := Nat.pos_of_ne_zero h0
      have hbl := rdigs_len64 (n := b) (by omega)
      have hne : rdigs b ≠ [] := fun h => h0 (rdigs_nil.1 h)
      have hpos := List.length_pos_iff.2 hne
      have e1 : ∀ k, slow.gtr (i64 (rdigs b).length) (.int .i64 0) k = k (.bool true) := fun k => by rw [show (SV.int .i64 0) = i64 0 from rfl, n_gtr, decide_eq_true hpos]
      obtain ⟨q, r, H1, h1, g1, q1, r1⟩ := rdiv_ok K d H hx hy hb0 ha (by omega) hK
      have hmod := Nat.mod_lt a hb0
      obtain ⟨r2, H2, h2, g2, y2⟩ := ih (a % b) hmod fuel H1 y r b (by omega) (by omega) (by omega) (Frame.trans hfr g1) (hy.fr g1) r1
      refine ⟨r2, H2, ?_, g2, ?_⟩
      · simp only [f32_l1, rlen hy, e1, z_cond, cond_true, h1, z_call, z_ext0, z_ext1]
        exact h2
      · rw [Nat.gcd_comm a b, Nat.gcd_rec, Nat.gcd_comm]
        exact y2
theorem rgcd_ok (K : Nat) (hK : 3000000 < K) (d : Nat) (H : Heap) {v w : SV} {a b : Nat} (hv : IsR H v a) (hw : IsR H w b) (hb : b < 1000) (ha : (rdigs a).length < 900000) :
    ∃ r H', runQ wk tab slow K (d + 5) 32 [v, w] H = some (r, H') ∧ Frame H H' ∧ IsR H' r (Nat.gcd a b) :=
  rgcd_loop K hK d b K H v w a (by omega) (by omega) ha (Fr.refl _ _) hv hw
theorem D_pow (k : Nat) : D ^ k = 2 ^ (16 * k) := by rw [show D = 2 ^ 16 from rfl, ← Nat.pow_mul]
theorem rd_len {m j k : Nat} (hm : m ≤ 2 ^ j) (h : j < 16 * k) : (rdigs m).length ≤ k := rdigs_len_le (by
  rw [D_pow]
  exact Nat.lt_of_le_of_lt hm (pow_lt2 h))
theorem rd_small {m i : Nat} (hm : m ≤ 2 ^ (6 * i)) (hi : i < 600) : (rdigs m).length ≤ 250 := rd_len hm (by omega)
theorem rorder_loop (K : Nat) (hK : 3000000 < K) (d : Nat) {H0 : Heap} {r : SV} {cs : List (List Nat)} {ws : List SV} (hr : Arr H0 r ws) (hwl : ws.length = cs.length) (hw : ∀ (q : Nat) w l, ws[q]? = some w → cs[q]? = some l → Arr H0 w (natsL l)) (hcl : cs.length ≤ 64) (hc : ∀ c ∈ cs, 0 < c.length ∧ c.length ≤ 64) : ∀ (rest : List (List Nat)) (i fuel : Nat) (H : Heap) (x : SV) (m : Nat), cs.drop i = rest → i + rest.length = cs.length → rest.length < fuel → Frame H0 H → IsR H x m → m ≤ 2 ^ (6 * i) →
    ∃ H', slow.loop3 (f18_l2 slow K (runQ wk tab slow K (d + 5))) fuel r x (i64 i) H = some (.tuple [.str (dec (lcmF m (rest.map List.length))), .int .i64 0], H') ∧ Frame H0 H'
  | [], i, fuel, H, x, m, hd, hil, hf, hfr, hx, hmi => by
    obtain ⟨fuel, rfl⟩ : ∃ m, fuel = m + 1 := ⟨fuel - 1, by omega⟩
    have hi : ¬ i < cs.length := by simp at hil; omega
    have h600 : i < 600 := by simp at hil; omega
    have hdl := dec_small (lt_4096 hmi h600)
    have hrl := rd_small hmi h600
    have hcn : ∀ k, slow.len r k = k (i64 cs.length) := fun k => by rw [(hr.fr hfr).len, hwl]
    obtain ⟨H1, h1, g1⟩ := rtext_ok K d H hx hK (by omega) (by omega)
    refine ⟨H1, ?_, Frame.trans hfr g1⟩
    rw [z_loop3]
    simp only [f18_l2, hcn, n_lss, decide_eq_false hi, z_cond, cond_false, h1, z_call, z_rest_str]
    rfl
  | c :: rest, i, fuel, H, x, m, hd, hil, hf, hfr, hx, hmi => by
    obtain ⟨fuel, rfl⟩ : ∃ m, fuel = m + 1 := ⟨fuel - 1, by omega⟩
    obtain ⟨hcx, hd', hi, _⟩ := drop_cons hd
    obtain ⟨c0, c1⟩ := hc c (List.mem_of_getElem? hcx)
    obtain ⟨w, hw1⟩ : ∃ w, ws[i]? = some w := ⟨_, List.getElem?_eq_getElem (by omega)⟩
    have hwa := hw i w c hw1 hcx
    have hwn : ∀ k, slow.len w k = k (i64 c.length) := fun k => by rw [hwa.len, natsL_len]
    have hcn : ∀ k, slow.len r k = k (i64 cs.length) := fun k => by rw [(hr.fr hfr).len, hwl]
    have h600 : i + 1 < 600 := by omega
    have hml := rd_small hmi (by omega)
    obtain ⟨n, hn⟩ : ∃ n, c.length = n := ⟨_, rfl⟩
    rw [hn] at c0 c1 hwn
    obtain ⟨vn, H1, h1, g1, n1⟩ := rof_ok K (by omega) (d + 4) H (n := n) (by omega)
    rw [show d + 4 + 1 = d + 5 from rfl] at h1
    obtain ⟨vg, H2, h2, g2, n2⟩ := rgcd_ok K hK d H1 (hx.fr g1) n1 (by omega) (by omega)
    have hg0 : 0 < Nat.gcd m n := Nat.gcd_pos_of_pos_right _ c0
    have hgn : Nat.gcd m n ≤ n := Nat.gcd_le_right _ c0
    have hgl := rdigs_len64 (n := Nat.gcd m n) (by omega)
    have hnl := rdigs_len64 (n := n) (by omega)
    obtain ⟨vq, vr, H3, h3, g3, n3, n4⟩ := rdiv_ok K (d + 1) H2 (n1.fr g2) n2 hg0 (by omega) (by omega) hK
    rw [show d + 1 + 4 = d + 5 from rfl] at h3
    have hqn : n / Nat.gcd m n ≤ n := Nat.div_le_self _ _
    have hql := rdigs_len64 (n := n / Nat.gcd m n) (by omega)
    have hstep := lcm_step (m := m) (n := n) (i := i) hmi c1
    obtain ⟨vm, H4, h4, g4, n5⟩ := rmul01_ok K (d + 3) H3 (((hx.fr g1).fr g2).fr g3) n3 (by omega) (by omega) (by omega)
    rw [show d + 3 + 2 = d + 5 from rfl] at h4
    obtain ⟨H5, h5, g5⟩ := rorder_loop K hK d hr hwl hw hcl hc rest (i + 1) fuel H4 vm _ hd' (by simp at hil; omega) (by simp at hf; omega) (Frame.trans hfr (Frame.trans g1 (Frame.trans g2 (Frame.trans g3 g4)))) n5 hstep
    refine ⟨H5, ?_, g5⟩
    rw [z_loop3]
    simp only [f18_l2, hcn, n_lss, decide_eq_true hi, z_cond, cond_true, (hr.fr hfr).load hw1, hwn, n_conv64 _ .i64 n (by omega), h1, z_call, h2, h3, z_ext0, z_ext1, h4, k_inc (show i < 1000000 by omega)]
    rw [List.map_cons, lcmF, hn]
    exact h5
theorem rorder_ok (K : Nat) (hK : 3000000 < K) (d : Nat) (H : Heap) {v : SV} {p : List Int} (hv : Arr H v (intsL .i64 p)) :
    ∃ s H', runQ wk tab slow K (d + 6) 18 [v] H = some (.tuple [.str s, .int .i64 (ckE p)], H') ∧ Frame H H' ∧ (ckE p = 0 → ∃ cs, CycTo (fnI p) p.length cs ∧ s = dec (lcmF 1 (cs.map List.length))) ∧ (ckE p ≠ 0 → s = []) := by
  obtain ⟨r, H1, h1, g1, c1, c2⟩ := rcyc_ok K (by omega) (d + 3) H hv
  rw [show d + 3 + 2 = d + 5 from rfl] at h1
  show ∃ s H', f18 slow K (runQ wk tab slow K (d + 5)) v H = _ ∧ _
  simp only [f18, h1, z_call, z_ext0, z_ext1, z_neq]
  by_cases h0 : ckE p = 0
  · have hb : (ckE p != 0) = false := by simp [h0]
    obtain ⟨cs, ⟨ws, o1, o2, o3⟩, hc⟩ := c1 h0
    have h64 := (ck_zero h0).1
    have hcl := cyc_len hc
    obtain ⟨v1, H2, h2, g2, n2⟩ := rof_ok K (by omega) (d + 4) H1 (n := 1) (by omega)
    rw [show d + 4 + 1 = d + 5 from rfl] at h2
    obtain ⟨H3, h3, g3⟩ := rorder_loop K hK d (o1.arr.fr g2) o2 (fun q w l hw hl => (o3 q w l hw hl).arr.fr g2) (by omega) (fun c hcm => ⟨cyc_pos hc c hcm, cyc_le h0 hc c hcm⟩) cs 0 K H2 v1 1 rfl (by simp) (by omega) (Fr.refl _ _) n2 (by decide)
    refine ⟨_, H3, ?_, Frame.trans g1 (Frame.trans g2 g3), fun _ => ⟨cs, hc, rfl⟩, fun h => absurd h0 h⟩
    rw [h0]
    rw [show (u64 1) = (SV.int .u64 1) from rfl] at h2
    simp only [bne_self_eq_false, z_cond, cond_false, h2, z_call]
    exact h3
  · have hb : (ckE p != 0) = true := by simp [h0]
    simp only [hb, z_cond, cond_true, z_rest_int]
    exact ⟨_, H1, rfl, g1, fun h => absurd h h0, fun _ => rfl⟩
end Go.Sh.Of

/- Fractions of the reference: contracts of parquetref03, of fractions that are small. -/
import Derived.Test.YtfjgbobjpjkamaaGreatRef
import Derived.Test.YtfjgbobjpjkamaaGreatRatA
set_option linter.unusedVariables false
set_option linter.unusedSimpArgs false
set_option exponentiation.threshold 20000
namespace Go.Sh.Of
open Go Go.Sh
theorem rgcdN_loop (K : Nat) (hK : 3000000 < K) (d : Nat) {H0 : Heap} : ∀ (b fuel : Nat) (H : Heap) (x y : SV) (a : Nat), gF a b < fuel -> (rdigs a).length < 100000 -> (rdigs b).length < 100000 -> Frame H0 H -> IsR H x a -> IsR H y b ->
  ∃ r H', slow.loop2 (f91_l1 slow K (runQ wk tab slow K (d + 4))) fuel x y H = some (r, H') /\ Frame H0 H' /\ IsR H' r (Nat.gcd a b) := by
 intro b
 induction b using Nat.strongRecOn with
 | ind b ih =>
  intro fuel H x y a hf ha hb hfr hx hy
  obtain ⟨fuel, rfl⟩ : ∃ m, fuel = m + 1 := ⟨fuel - 1, by omega⟩
  rw [z_loop2]
  by_cases h0 : b = 0
  ·subst h0
   have e1 : ∀ k, slow.gtr (i64 (rdigs 0).length) (.int .i64 0) k = k (.bool false) := fun k => by rw [rdigs_zero, z_gtr]; rfl
   refine ⟨x, H, ?_, hfr, ?_⟩
   ·simp only [f91_l1, rlen hy, e1, z_cond, cond_false, z_rest hx.good]
   ·rw [Nat.gcd_zero_right]
    exact hx
  ·have hb0 : 0 < b := Nat.pos_of_ne_zero h0
   have hne : rdigs b ≠ [] := fun h => h0 (rdigs_nil.1 h)
   have hpos := List.length_pos_iff.2 hne
   have e1 : ∀ k, slow.gtr (i64 (rdigs b).length) (.int .i64 0) k = k (.bool true) := fun k => by rw [show (SV.int .i64 0) = i64 0 from rfl, n_gtr, decide_eq_true hpos]
   obtain ⟨q, r, H1, h1, g1, q1, r1⟩ := rdiv_ok K d H hx hy hb0 (by omega) (by omega) hK
   have hmod := Nat.mod_lt a hb0
   rw [gF_pos h0] at hf
   have hml : (rdigs (a % b)).length < 100000 := Nat.lt_of_le_of_lt (rdigs_mono (Nat.le_of_lt hmod)) hb
   obtain ⟨r2, H2, h2, g2, y2⟩ := ih (a % b) hmod fuel H1 y r b (by omega) hb hml (Frame.trans hfr g1) (hy.fr g1) r1
   refine ⟨r2, H2, ?_, g2, ?_⟩
   ·simp only [f91_l1, rlen hy, e1, z_cond, cond_true, h1, z_call, z_ext0, z_ext1]
    exact h2
   ·rw [Nat.gcd_comm a b, Nat.gcd_rec, Nat.gcd_comm]
    exact y2
theorem rgcdN_ok (K : Nat) (hK : 3000000 < K) (d : Nat) (H : Heap) {v w : SV} {a b : Nat} (hv : IsR H v a) (hw : IsR H w b) (ha : (rdigs a).length < 100000) (hb : b < 2 ^ 9000) :
  ∃ r H', runQ wk tab slow K (d + 5) 91 [v, w] H = some (r, H') /\ Frame H H' /\ IsR H' r (Nat.gcd a b) := by
 have h3 := gF_le 9000 a b hb
 have h4 : (rdigs b).length <= 563 := rdigs_len_le (k := 563) (by
  rw [pow_D (k := 9008) rfl]
  exact Nat.lt_of_lt_of_le hb (Nat.pow_le_pow_right (by decide) (by omega)))
 exact rgcdN_loop K hK d b K H v w a (by omega) ha (by omega) (Fr.refl _ _) hv hw
def IsQR (H : Heap) (v : SV) (q : Rat) : Prop := ∃ s t, v = .agg [.bool (decide (q.num < 0)), .slice s, .slice t] /\ IsR H (.slice s) q.num.natAbs /\ IsR H (.slice t) q.den
theorem IsQR.fr {H H' : Heap} {v : SV} {q : Rat} (h : IsQR H v q) (hf : Frame H H') : IsQR H' v q := by
 obtain ⟨s, t, e, h1, h2⟩ := h
 exact ⟨s, t, e, Arr.fr h1 hf, Arr.fr h2 hf⟩
theorem IsQR.keep {H H' : Heap} {v : SV} {q : Rat} (h : IsQR H v q) {X : Nat -> Prop} (hX : ∀ r row, X r -> H.get r = some row -> ∀ c ∈ row.cells, ∀ kd n, c ≠ .int kd n) (hro : ∀ r, ¬ X r -> r < H.size -> H'.get r = H.get r) : IsQR H' v q := by
 obtain ⟨s, t, rfl, ha, hb⟩ := h
 refine ⟨s, t, rfl, Arr.keepG ha (fun c0 hc0 r row hx hg c hc => ?_) hro, Arr.keepG hb (fun c0 hc0 r row hx hg c hc => ?_) hro⟩ <;>
 ·obtain ⟨d, _, rfl⟩ := List.mem_map.1 hc0
  exact hX r row hx hg c hc _ _
theorem p4096_9000 {b : Nat} (h : b < 2 ^ 4096) : b < 2 ^ 9000 := Nat.lt_of_lt_of_le h (Nat.pow_le_pow_right (by decide) (by decide))
theorem sgn_zero (m : Bool) : sgn m 0 = 0 := by cases m <;> rfl
theorem sgn_nat (m : Bool) (a : Nat) : (sgn m a).natAbs = a := by cases m <;> simp [sgn]
theorem sgn_lt {m : Bool} {a : Nat} (h : 0 < a) : decide (sgn m a < 0) = m := by
 cases m
 ·exact decide_eq_false (by show ¬ ((a : Int) < 0); omega)
 ·exact decide_eq_true (by show (-(a : Int) < 0); omega)
theorem rlow_run (K d : Nat) (H : Heap) (m v w : SV) : runQ wk tab slow K (d + 6) 62 [m, v, w] H = f62 slow K (runQ wk tab slow K (d + 5)) m v w H := Eq.trans rfl rfl
theorem rlow_ok (K : Nat) (hK : 3000000 < K) (d : Nat) (H : Heap) (m : Bool) {v w : SV} {a b : Nat} (hv : IsR H v a) (hw : IsR H w b) (hb : 0 < b) (ha' : a < 2 ^ 4096) (hb' : b < 2 ^ 4096) :
  ∃ r H', runQ wk tab slow K (d + 6) 62 [.bool m, v, w] H = some (r, H') /\ Frame H H' /\ IsQR H' r (mkRat (sgn m a) b) := by
 rw [rlow_run]
 have la := big_rd ha'
 have lb := big_rd hb'
 by_cases h0 : a = 0
 ·subst h0
  have e1 : ∀ k, slow.eql (i64 (rdigs 0).length) (.int .i64 0) k = k (.bool true) := fun k => by rw [rdigs_zero, z_eql]; rfl
  obtain ⟨r, H1, h1, f1, ir⟩ := rof_ok K (by omega) (d + 4) H (n := 1) (by decide)
  have h1' : runQ wk tab slow K (d + 5) 63 [.int .u64 1] H = some (r, H1) := h1
  obtain ⟨t, rfl⟩ := IsR.slice ir
  have eq : mkRat (sgn m 0) b = 0 := by rw [sgn_zero, Rat.zero_mkRat]
  refine ⟨.agg [.bool false, .slice nilSl, .slice t], H1, ?_, f1, nilSl, t, ?_, ?_, ?_⟩
  ·simp only [f62, rlen hv, e1, z_cond, cond_true, h1', z_call, z_build3, z_bst3, z_resc3]
  ·rw [eq]; rfl
  ·rw [eq, show (0 : Rat).num = 0 from rfl, Int.natAbs_zero]; exact IsR.zero (Arr.nil _)
  ·rw [eq, show (0 : Rat).den = 1 from rfl]; exact ir
 ·have hne : (rdigs a).length ≠ 0 := fun h => h0 (rdigs_nil.1 (List.eq_nil_of_length_eq_zero h))
  have e1 : ∀ k, slow.eql (i64 (rdigs a).length) (.int .i64 0) k = k (.bool false) := fun k => by rw [show (SV.int .i64 0) = i64 0 from rfl, n_eql, decide_eq_false hne]
  obtain ⟨g, H1, h1, f1, ig⟩ := rgcdN_ok K hK d H hv hw (by omega) (p4096_9000 hb')
  have hg0 := Nat.gcd_pos_of_pos_right a hb
  have hgb := Nat.gcd_le_right a hb
  have hga : Nat.gcd a b <= a := Nat.gcd_le_left b (by omega)
  have lg := big_rd (Nat.lt_of_le_of_lt hgb hb')
  obtain ⟨x, x', H2, h2, f2, ix, _⟩ := rdiv_ok K (d + 1) H1 (hv.fr f1) ig hg0 (by omega) (by omega) hK
  obtain ⟨y, y', H3, h3, f3, iy, _⟩ := rdiv_ok K (d + 1) H2 (hw.fr (Frame.trans f1 f2)) (ig.fr f2) hg0 (by omega) (by omega) hK
  have ix3 := ix.fr f3
  obtain ⟨s, rfl⟩ := IsR.slice ix
  obtain ⟨t, rfl⟩ := IsR.slice iy
  have m1 := mk_sgn (z := sgn m a) hb
  have m2 := mk_den (z := sgn m a) hb
  rw [sgn_nat, sgn_lt (by omega)] at m1
  rw [sgn_nat] at m2
  have hq : 0 < a / Nat.gcd a b := Nat.div_pos hga hg0
  refine ⟨.agg [.bool m, .slice s, .slice t], H3, ?_, Frame.trans f1 (Frame.trans f2 f3), s, t, ?_, ?_, ?_⟩
  ·simp only [f62, rlen hv, e1, z_cond, cond_false, h1, z_call, h2, z_ext0, z_ext1, h3, z_build3, z_bst3, z_resc3]
  ·rw [m1, sgn_lt hq]
  ·rw [m1, sgn_nat]; exact ix3
  ·rw [m2]; exact iy
theorem rqof_j1 (K : Nat) (hK : 3000000 < K) (d : Nat) (H : Heap) (z : Int) (h0 : -9223372036854775808 <= z) (h1 : z < 9223372036854775808) :
  ∃ r H', f26_j1 slow K (runQ wk tab slow K (d + 6)) (.int .i64 z) (.int .i64 1) (.box [.bool false, .slice nilSl, .slice nilSl]) (u64 z.natAbs) H = some (r, H') /\ Frame H H' /\ IsQR H' r (z : Rat) := by
 obtain ⟨x, H1, h1, f1, ix⟩ := rof_ok K (by omega) (d + 5) H (n := z.natAbs) (by omega)
 obtain ⟨y, H2, h2, f2, iy⟩ := rof_ok K (by omega) (d + 5) H1 (n := 1) (by decide)
 have p64 : 2 ^ 64 <= 2 ^ 4096 := Nat.pow_le_pow_right (by decide) (by decide)
 have e64 : 2 ^ 64 = 18446744073709551616 := by decide
 obtain ⟨r, H3, h3, f3, ir⟩ := rlow_ok K hK d H2 (decide (z < 0)) (ix.fr f2) iy (by decide) (by omega) (by omega)
 rw [sgn_self, Rat.mkRat_one] at ir
 have ir' := ir
 obtain ⟨s, t, rfl, _⟩ := ir'
 refine ⟨_, H3, ?_, Frame.trans f1 (Frame.trans f2 f3), ir⟩
 have e1 : ∀ k, slow.conv .u64 (.int .i64 1) k = k (u64 1) := fun k => n_conv64 _ .i64 1 (by decide)
 simp only [f26_j1, z_lss, h1, z_call, e1, h2, h3, z_bst3, z_resc3]
theorem rqof_run (K d : Nat) (H : Heap) (v w : SV) : runQ wk tab slow K (d + 7) 26 [v, w] H = f26 slow K (runQ wk tab slow K (d + 6)) v w H := Eq.trans rfl rfl
theorem y_conv64 (kd : IntKind) (z : Int) (k : K1) : slow.conv .u64 (.int kd z) k = k (.int .u64 (IntKind.wrap .u64 z)) := Eq.trans rfl rfl
theorem z_uneg {z : Int} (h0 : -9223372036854775808 <= z) (h : z < 0) (k : K1) : slow.u_neg (.int .u64 (IntKind.wrap .u64 z)) k = k (u64 z.natAbs) := by
 have e2 : IntKind.wrap .u64 (0 - IntKind.wrap .u64 z) = ((z.natAbs : Nat) : Int) := by
  simp only [IntKind.wrap, IntKind.signed, IntKind.bits, Bool.false_and, Bool.false_eq_true, if_false]
  omega
 show (opP (.un .neg) [.int .u64 (IntKind.wrap .u64 z)]).bind k = _
 simp only [opP, unOp, wrapB, Option.bind_some]
 rw [e2]
theorem rqof_ok (K : Nat) (hK : 3000000 < K) (d : Nat) (H : Heap) {z : Int} (h0 : -9223372036854775808 <= z) (h1 : z < 9223372036854775808) :
  ∃ r H', runQ wk tab slow K (d + 7) 26 [.int .i64 z, .int .i64 1] H = some (r, H') /\ Frame H H' /\ IsQR H' r (z : Rat) := by
 obtain ⟨r, H1, g1, f1, ir⟩ := rqof_j1 K hK d H z h0 h1
 refine ⟨r, H1, ?_, f1, ir⟩
 rw [rqof_run]
 by_cases h : z < 0
 ·have e4 : ∀ k, _ := fun k => z_uneg h0 h k
  simp only [f26]
  rw [y_conv64]
  generalize IntKind.wrap .u64 z = y at e4 ⊢
  simp only [z_lss, decide_eq_true h, z_cond, cond_true, e4]
  exact g1
 ·obtain ⟨n, rfl⟩ : ∃ n : Nat, z = n := ⟨z.toNat, by omega⟩
  simp only [f26]
  rw [n_conv64 _ .i64 n (by omega)]
  simp only [z_lss, decide_eq_false h, z_cond, cond_false]
  exact g1
theorem z_lay4 {H : Heap} {lo : Nat} (hl : lo <= H.size) (z : SV) {x y u w : SV} (hx : x.flat = true) (hy : y.flat = true) (hu : u.flat = true) (hw : w.flat = true) :
  ∃ v H', (∀ k, slow.hbuild 1 [z, z, z, z] [(0, 1), (1, 1), (2, 1), (3, 1)] [x, y, u, w] H k = k v H') /\ Own lo H' v [x, y, u, w] /\ Frame H H' := by
 have hit : x.item = true := by cases x <;> simp_all [SV.item, SV.flat]
 have hce : x.cells = [x] := by cases x <;> simp_all [SV.cells, SV.flat]
 have hit' : y.item = true := by cases y <;> simp_all [SV.item, SV.flat]
 have hce' : y.cells = [y] := by cases y <;> simp_all [SV.cells, SV.flat]
 have hiu : u.item = true := by cases u <;> simp_all [SV.item, SV.flat]
 have hcu : u.cells = [u] := by cases u <;> simp_all [SV.cells, SV.flat]
 have hiw : w.item = true := by cases w <;> simp_all [SV.item, SV.flat]
 have hcw : w.cells = [w] := by cases w <;> simp_all [SV.cells, SV.flat]
 refine ⟨.slice ⟨some (H.size, 0), 4, none, 0⟩, H.push (newRow 1 [x, y, u, w]), fun k => ?_, ⟨some (H.size, 0), rfl, .inr ⟨H.size, 0, rfl, hl, Heap.get_push_self _ _⟩⟩, Fr.push (Nat.le_refl _) _⟩
 show (opE (.build 1 [z, z, z, z] [(0, 1), (1, 1), (2, 1), (3, 1)]) [x, y, u, w] H).bind _ = _
 simp only [opE, List.length_cons, List.length_nil, List.zip_cons_cons, List.zip_nil_right, List.map_cons, List.map_nil, fillS, hit, hce, hit', hce', hiu, hcu, hiw, hcw]
 rfl
theorem rlongs_loop (K : Nat) (hK : 100000 < K) (d : Nat) (H : Heap) {v : SV} {xs : List SV} (hv : Arr H v xs) (hx : ∀ x ∈ xs, ∃ n, IsR H x n /\ n < 2 ^ 4096) (hl : xs.length < 1000) : ∀ (m i fuel : Nat), i + m = xs.length -> m < fuel ->
  slow.loop2 (f65_l1 slow K (runQ wk tab slow K (d + 2))) fuel v (i64 i) H = some (.bool false, H)
 | 0, i, fuel, hm, hf => by
  obtain ⟨fuel, rfl⟩ : ∃ m, fuel = m + 1 := ⟨fuel - 1, by omega⟩
  rw [z_loop2]
  have h : ¬ i < xs.length := by omega
  simp only [f65_l1, hv.len, n_lss, decide_eq_false h, z_cond, cond_false]
 | m + 1, i, fuel, hm, hf => by
  obtain ⟨fuel, rfl⟩ : ∃ m, fuel = m + 1 := ⟨fuel - 1, by omega⟩
  rw [z_loop2]
  have h : i < xs.length := by omega
  obtain ⟨n, hn, hn'⟩ := hx _ (List.getElem_mem h)
  have h1 := rlong_ok K hK d H hn (by have := big_rd hn'; omega)
  rw [decide_eq_true hn', Bool.not_true] at h1
  have e1 := hv.load (List.getElem?_eq_getElem h) .i64
  simp only [f65_l1, hv.len, n_lss, decide_eq_true h, z_cond, cond_true, e1, h1, z_call, cond_false, u_inc (show i < 1000000 by omega)]
  exact rlongs_loop K hK d H hv hx hl m (i + 1) fuel (by omega) (by omega)
theorem rlongs_ok (K : Nat) (hK : 100000 < K) (d : Nat) (H : Heap) {v : SV} {xs : List SV} (hv : Arr H v xs) (hx : ∀ x ∈ xs, ∃ n, IsR H x n /\ n < 2 ^ 4096) (hl : xs.length < 1000) :
  runQ wk tab slow K (d + 3) 65 [v] H = some (.bool false, H) := by
 show f65 slow K (runQ wk tab slow K (d + 2)) v H = _
 exact rlongs_loop K hK d H hv hx hl xs.length 0 K (by omega) (by omega)
theorem rqmul_run (K d : Nat) (H : Heap) (v w : SV) : runQ wk tab slow K (d + 7) 27 [v, w] H = f27 slow K (runQ wk tab slow K (d + 6)) v w H := Eq.trans rfl rfl
theorem sgn_mul (p q : Int) : sgn (!(decide (p < 0) == decide (q < 0))) (p.natAbs * q.natAbs) = p * q := by
 conv => rhs; rw [<- sgn_self p, <- sgn_self q]
 unfold sgn
 by_cases h1 : p < 0 <;> by_cases h2 : q < 0 <;> simp [h1, h2, Int.natCast_mul, Int.neg_mul, Int.mul_neg]
theorem rmulq_ok (K : Nat) (hK : 3000000 < K) (d : Nat) (H : Heap) {s t s' t' : Sl} (m m' : Bool) {a b a' b' : Nat} (h1 : IsR H (.slice s) a) (h2 : IsR H (.slice t) b) (h3 : IsR H (.slice s') a') (h4 : IsR H (.slice t') b') (la : a < 2 ^ 1500) (lb : b < 2 ^ 1500) (la' : a' < 2 ^ 1500) (lb' : b' < 2 ^ 1500) (hb : 0 < b) (hb' : 0 < b') :
  ∃ r H', runQ wk tab slow K (d + 7) 27 [.agg [.bool m, .slice s, .slice t], .agg [.bool m', .slice s', .slice t']] H = some (.tuple [r, .int .i64 0], H') /\ Frame H H' /\ IsQR H' r (mkRat (sgn (!(m == m')) (a * a')) (b * b')) := by
 have k1 := big_rd (lt_4096 (lt_3000 la))
 have k2 := big_rd (lt_4096 (lt_3000 lb))
 have k3 := big_rd (lt_4096 (lt_3000 la'))
 have k4 := big_rd (lt_4096 (lt_3000 lb'))
 have n1 := lt_4096 (mul_1500 la la')
 have n2 := lt_4096 (mul_1500 lb lb')
 obtain ⟨x, H1, g1, f1, ix⟩ := rmul01_ok K (d + 4) H h1 h3 (by omega) (by omega) (by omega)
 obtain ⟨y, H2, g2, f2, iy⟩ := rmul01_ok K (d + 4) H1 (h2.fr f1) (h4.fr f1) (by omega) (by omega) (by omega)
 have ix2 := ix.fr f2
 obtain ⟨sx, rfl⟩ := IsR.slice ix
 obtain ⟨sy, rfl⟩ := IsR.slice iy
 obtain ⟨l, H3, g3, ol, f3, _⟩ := z_lay2 (H := H2) (Nat.le_refl _) (.slice nilSl) (.slice nilSl) (x := .slice sx) (y := .slice sy) rfl rfl
 have g4 := rlongs_ok K (by omega) (d + 3) H3 ol.arr (fun u hu => by
  rcases List.mem_cons.1 hu with rfl | hu
  ·exact ⟨_, ix2.fr f3, n1⟩
  ·rw [List.mem_singleton] at hu
   subst hu
   exact ⟨_, iy.fr f3, n2⟩) (by simp)
 obtain ⟨r, H4, g5, f4, ir⟩ := rlow_ok K hK d H3 (!(m == m')) (ix2.fr f3) (iy.fr f3) (Nat.mul_pos hb hb') n1 n2
 have ir' := ir
 obtain ⟨s5, t5, rfl, _⟩ := ir'
 refine ⟨_, H4, ?_, Frame.trans f1 (Frame.trans f2 (Frame.trans f3 f4)), ir⟩
 rw [rqmul_run]
 simp only [f27, z_bbox, z_lfld, z_lld1, z_lld3, z_lld0, g1, z_call, g2, g3, g4, z_cond, cond_false, z_bneq, g5, z_bst3, z_resc3]
theorem rqmul_ok (K : Nat) (hK : 3000000 < K) (d : Nat) (H : Heap) {v w : SV} {p q : Rat} (hv : IsQR H v p) (hw : IsQR H w q) (hp : QS p) (hq : QS q) :
  ∃ r H', runQ wk tab slow K (d + 7) 27 [v, w] H = some (.tuple [r, .int .i64 0], H') /\ Frame H H' /\ IsQR H' r (p * q) := by
 obtain ⟨s, t, rfl, h1, h2⟩ := hv
 obtain ⟨s', t', rfl, h3, h4⟩ := hw
 obtain ⟨r, H', e, f, ir⟩ := rmulq_ok K hK d H (decide (p.num < 0)) (decide (q.num < 0)) h1 h2 h3 h4 hp.1 hp.2 hq.1 hq.2 p.den_pos q.den_pos
 rw [sgn_mul, <- Rat.mul_def'] at ir
 exact ⟨r, H', e, f, ir⟩
theorem rqdiv_run (K d : Nat) (H : Heap) (v w : SV) : runQ wk tab slow K (d + 8) 29 [v, w] H = f29 slow K (runQ wk tab slow K (d + 7)) v w H := Eq.trans rfl rfl
theorem rqdiv_ok (K : Nat) (hK : 3000000 < K) (d : Nat) (H : Heap) {v w : SV} {p q : Rat} (hv : IsQR H v p) (hw : IsQR H w q) (hp : QS p) (hq : QS q) (h0 : q ≠ 0) :
  ∃ r H', runQ wk tab slow K (d + 8) 29 [v, w] H = some (.tuple [r, .int .i64 0], H') /\ Frame H H' /\ IsQR H' r (p / q) := by
 obtain ⟨s, t, rfl, h1, h2⟩ := hv
 obtain ⟨s', t', rfl, h3, h4⟩ := hw
 have hn : q.num ≠ 0 := fun e => h0 (Rat.num_eq_zero.1 e)
 have hne : (rdigs q.num.natAbs).length ≠ 0 := fun h => by
  have := rdigs_nil.1 (List.eq_nil_of_length_eq_zero h)
  omega
 have e1 : ∀ k, slow.eql (i64 (rdigs q.num.natAbs).length) (.int .i64 0) k = k (.bool false) := fun k => by rw [show (SV.int .i64 0) = i64 0 from rfl, n_eql, decide_eq_false hne]
 obtain ⟨r, H', e, f, ir⟩ := rmulq_ok K hK d H (decide (p.num < 0)) (decide (q.num < 0)) h1 h2 h4 h3 hp.1 hp.2 hq.2 hq.1 p.den_pos (Int.natAbs_pos.2 hn)
 have e2 := Rat.mkRat_mul_mkRat p.num (sgn (decide (q.num < 0)) q.den) p.den q.num.natAbs
 rw [Rat.mkRat_self, inv_mk h0, <- Rat.div_def] at e2
 have e3 : sgn (!(decide (p.num < 0) == decide (q.num < 0))) (p.num.natAbs * q.den) = p.num * sgn (decide (q.num < 0)) q.den := by
  conv => rhs; rw [<- sgn_self p.num]
  unfold sgn
  by_cases h1 : p.num < 0 <;> by_cases h2 : q.num < 0 <;> simp [h1, h2, Int.natCast_mul, Int.neg_mul, Int.mul_neg]
 rw [e3, <- e2] at ir
 have ir' := ir
 obtain ⟨s5, t5, rfl, _⟩ := ir'
 refine ⟨_, H', ?_, f, ir⟩
 rw [rqdiv_run]
 simp only [f29, z_bbox, z_lfld, z_lld1, rlen h3, e1, z_cond, cond_false, z_lload3, z_lld0, z_lld3, z_build3, e, z_call, z_ext0, z_ext1, z_bst3, z_resc3, z_rest_int]
theorem rqneg_run (K d : Nat) (H : Heap) (v : SV) : runQ wk tab slow K (d + 1) 96 [v] H = f96 slow K (runQ wk tab slow K d) v H := Eq.trans rfl rfl
theorem rqneg_ok (K : Nat) (d : Nat) (H : Heap) {v : SV} {q : Rat} (hv : IsQR H v q) : ∃ r, runQ wk tab slow K (d + 1) 96 [v] H = some (r, H) /\ IsQR H r (-q) := by
 obtain ⟨s, t, rfl, h1, h2⟩ := hv
 refine ⟨.agg [.bool (decide ((-q).num < 0)), .slice s, .slice t], ?_, s, t, rfl, by rw [Rat.neg_num, Int.natAbs_neg]; exact h1, by rw [Rat.neg_den]; exact h2⟩
 rw [rqneg_run]
 rw [Rat.neg_num]
 by_cases h : q.num < 0
 ·have e : decide (-q.num < 0) = false := decide_eq_false (by omega)
  simp only [f96, z_bbox, z_lfld, z_lld0, decide_eq_true h, z_not, Bool.not_true, z_guard, cond_false, z_lld1, z_lld3, z_build3, z_bst3, f96_j1, z_resc3, e]
 ·have e : decide ((rdigs q.num.natAbs).length > 0) = decide (-q.num < 0) := by
   refine decide_eq_decide.2 ⟨fun hh => ?_, fun hh => ?_⟩
   ·have : q.num.natAbs ≠ 0 := fun e0 => by rw [e0, rdigs_zero] at hh; simp at hh
    omega
   ·exact List.length_pos_iff.2 fun e0 => by have := rdigs_nil.1 e0; omega
  have e1 : ∀ k, slow.gtr (i64 (rdigs q.num.natAbs).length) (.int .i64 0) k = k (.bool (decide (-q.num < 0))) := fun k => by rw [show (SV.int .i64 0) = i64 0 from rfl, n_gtr, e]
  simp only [f96, z_bbox, z_lfld, z_lld0, decide_eq_false h, z_not, Bool.not_false, z_guard, cond_true, z_lld1, rlen h1, e1, z_lld3, z_build3, z_bst3, f96_j1, z_resc3]
theorem rsum_run (K d : Nat) (H : Heap) (a v b w : SV) : runQ wk tab slow K (d + 3) 119 [a, v, b, w] H = f119 slow K (runQ wk tab slow K (d + 2)) a v b w H := Eq.trans rfl rfl
theorem rsum_ok (K : Nat) (hK : 3000000 < K) (d : Nat) (H : Heap) (m m' : Bool) {v w : SV} {a b : Nat} (hv : IsR H v a) (hw : IsR H w b) (la : (rdigs a).length < 900000) (lb : (rdigs b).length < 900000) :
  ∃ mr r n H', runQ wk tab slow K (d + 3) 119 [.bool m, v, .bool m', w] H = some (.tuple [.bool mr, .slice r], H') /\ Frame H H' /\ IsR H' (.slice r) n /\ sgn mr n = sgn m a + sgn m' b /\ n <= a + b := by
 rw [rsum_run]
 have hc := rcmp_ok K (d + 1) H hv hw (by omega) (by omega)
 by_cases hm : m = m'
 ·subst hm
  obtain ⟨r, H1, h1, f1, ir⟩ := radd_ok K d H hv hw la lb hK
  obtain ⟨s, rfl⟩ := IsR.slice ir
  refine ⟨m, s, _, H1, ?_, f1, ir, ?_, Nat.le_refl _⟩
  ·have e : (m == m) = true := by cases m <;> rfl
   simp only [f119, z_beql, e, z_cond, cond_true, h1, z_call, z_rest_bool, z_rest_slice]
  ·cases m <;> simp only [sgn, if_true, if_false, Bool.false_eq_true] <;> omega
 ·have e : (m == m') = false := by cases m <;> cases m' <;> first | rfl | exact absurd rfl hm
  have ec : (cmpN a b >= 0) ↔ b <= a := by
   unfold cmpN
   split
   ·omega
   ·split <;> omega
  by_cases hab : b <= a
  ·obtain ⟨r, H1, h1, f1, ir, _⟩ := rsub_ok K d H hv hw hab (by omega) (by omega)
   obtain ⟨s, rfl⟩ := IsR.slice ir
   refine ⟨m, s, _, H1, ?_, f1, ir, ?_, by omega⟩
   ·simp only [f119, z_beql, e, z_cond, cond_false, hc, z_call, z_geq, decide_eq_true (ec.2 hab), cond_true, h1, z_rest_bool, z_rest_slice]
   ·cases m <;> cases m' <;> simp_all [sgn] <;> omega
  ·obtain ⟨r, H1, h1, f1, ir, _⟩ := rsub_ok K d H hw hv (by omega) (by omega) (by omega)
   obtain ⟨s, rfl⟩ := IsR.slice ir
   refine ⟨m', s, _, H1, ?_, f1, ir, ?_, by omega⟩
   ·simp only [f119, z_beql, e, z_cond, cond_false, hc, z_call, z_geq, decide_eq_false (mt ec.1 hab), h1, z_rest_bool, z_rest_slice]
   ·cases m <;> cases m' <;> simp_all [sgn] <;> omega
theorem rqadd_run (K d : Nat) (H : Heap) (v w : SV) : runQ wk tab slow K (d + 7) 95 [v, w] H = f95 slow K (runQ wk tab slow K (d + 6)) v w H := Eq.trans rfl rfl
theorem sgn_mulr (p : Int) (n : Nat) : sgn (decide (p < 0)) (p.natAbs * n) = p * n := by
 conv => rhs; rw [<- sgn_self p]
 unfold sgn
 by_cases h1 : p < 0 <;> simp [h1, Int.natCast_mul, Int.neg_mul]
theorem rqadd_ok (K : Nat) (hK : 3000000 < K) (d : Nat) (H : Heap) {v w : SV} {p q : Rat} (hv : IsQR H v p) (hw : IsQR H w q) (hp : QS p) (hq : QS q) :
  ∃ r H', runQ wk tab slow K (d + 7) 95 [v, w] H = some (.tuple [r, .int .i64 0], H') /\ Frame H H' /\ IsQR H' r (p + q) := by
 obtain ⟨s, t, rfl, h1, h2⟩ := hv
 obtain ⟨s', t', rfl, h3, h4⟩ := hw
 have k1 := big_rd (lt_4096 (lt_3000 hp.1))
 have k2 := big_rd (lt_4096 (lt_3000 hp.2))
 have k3 := big_rd (lt_4096 (lt_3000 hq.1))
 have k4 := big_rd (lt_4096 (lt_3000 hq.2))
 have n1 := mul_1500 hp.1 hq.2
 have n2 := mul_1500 hq.1 hp.2
 have n3 := mul_1500 hp.2 hq.2
 obtain ⟨x, H1, g1, f1, ix⟩ := rmul01_ok K (d + 4) H h1 h4 (by omega) (by omega) (by omega)
 obtain ⟨y, H2, g2, f2, iy⟩ := rmul01_ok K (d + 4) H1 (h3.fr f1) (h2.fr f1) (by omega) (by omega) (by omega)
 have F2 := Frame.trans f1 f2
 obtain ⟨z, H3, g3, f3, iz⟩ := rmul01_ok K (d + 4) H2 (h2.fr F2) (h4.fr F2) (by omega) (by omega) (by omega)
 have kx := big_rd (lt_4096 n1)
 have ky := big_rd (lt_4096 n2)
 have ix3 := ix.fr (Frame.trans f2 f3)
 have iy3 := iy.fr f3
 obtain ⟨mr, r4, n, H4, g4, f4, i4, hs, hn⟩ := rsum_ok K hK (d + 3) H3 (decide (p.num < 0)) (decide (q.num < 0)) ix3 iy3 (by omega) (by omega)
 have n4 : n < 2 ^ 4096 := by
  have := p3001
  omega
 have ix4 := ix3.fr f4
 have iy4 := iy3.fr f4
 have iz4 := iz.fr f4
 obtain ⟨sx, rfl⟩ := IsR.slice ix
 obtain ⟨sy, rfl⟩ := IsR.slice iy
 obtain ⟨sz, rfl⟩ := IsR.slice iz
 obtain ⟨l, H5, g5, ol, f5⟩ := z_lay4 (H := H4) (Nat.le_refl _) (.slice nilSl) (x := .slice sx) (y := .slice sy) (u := .slice sz) (w := .slice r4) rfl rfl rfl rfl
 have g6 := rlongs_ok K (by omega) (d + 3) H5 ol.arr (fun u hu => by
  rcases List.mem_cons.1 hu with rfl | hu
  ·exact ⟨_, ix4.fr f5, lt_4096 n1⟩
  ·rcases List.mem_cons.1 hu with rfl | hu
   ·exact ⟨_, iy4.fr f5, lt_4096 n2⟩
   ·rcases List.mem_cons.1 hu with rfl | hu
    ·exact ⟨_, iz4.fr f5, lt_4096 n3⟩
    ·rw [List.mem_singleton] at hu
     subst hu
     exact ⟨_, i4.fr f5, n4⟩) (by simp)
 obtain ⟨r, H6, g7, f6, ir⟩ := rlow_ok K hK d H5 mr (i4.fr f5) (iz4.fr f5) (Nat.mul_pos p.den_pos q.den_pos) n4 (lt_4096 n3)
 rw [hs, sgn_mulr, sgn_mulr, <- Rat.add_def'] at ir
 have ir' := ir
 obtain ⟨s5, t5, rfl, _⟩ := ir'
 refine ⟨_, H6, ?_, Frame.trans F2 (Frame.trans f3 (Frame.trans f4 (Frame.trans f5 f6))), ir⟩
 rw [rqadd_run]
 simp only [f95, z_bbox, z_lfld, z_lld1, z_lld3, z_lld0, g1, z_call, g2, g3, g4, z_ext0, z_ext1, g5, g6, z_cond, cond_false, g7, z_bst3, z_resc3]
theorem rqsub_run (K d : Nat) (H : Heap) (v w : SV) : runQ wk tab slow K (d + 8) 66 [v, w] H = f66 slow K (runQ wk tab slow K (d + 7)) v w H := Eq.trans rfl rfl
theorem QS.neg {q : Rat} (h : QS q) : QS (-q) := ⟨by rw [Rat.neg_num, Int.natAbs_neg]; exact h.1, by rw [Rat.neg_den]; exact h.2⟩
theorem rqsub_ok (K : Nat) (hK : 3000000 < K) (d : Nat) (H : Heap) {v w : SV} {p q : Rat} (hv : IsQR H v p) (hw : IsQR H w q) (hp : QS p) (hq : QS q) :
  ∃ r H', runQ wk tab slow K (d + 8) 66 [v, w] H = some (.tuple [r, .int .i64 0], H') /\ Frame H H' /\ IsQR H' r (p - q) := by
 obtain ⟨x, h1, ix⟩ := rqneg_ok K (d + 6) H hw
 obtain ⟨r, H1, h2, f1, ir⟩ := rqadd_ok K hK d H hv ix hp hq.neg
 rw [<- Rat.sub_eq_add_neg] at ir
 obtain ⟨s, t, rfl, _⟩ := hv
 obtain ⟨s', t', rfl, _⟩ := hw
 have ir' := ir
 obtain ⟨s5, t5, rfl, _⟩ := ir'
 refine ⟨_, H1, ?_, f1, ir⟩
 rw [rqsub_run]
 simp only [f66, z_bbox, z_lload3, h1, z_call, h2, z_ext0, z_ext1, z_bst3, z_resc3, z_rest_int]
theorem rqless_run (K d : Nat) (H : Heap) (v w u : SV) : runQ wk tab slow K (d + 9) 28 [v, w, u] H = f28 slow K (runQ wk tab slow K (d + 8)) v w u H := Eq.trans rfl rfl
theorem rqless_ok (K : Nat) (hK : 3000000 < K) (d : Nat) (H : Heap) {u v w : SV} {o p q : Rat} (hu : IsQR H u o) (hv : IsQR H v p) (hw : IsQR H w q) (ho : QS o) (hp : QS p) (hq : QS q) (hpq : QS (p * q)) :
  ∃ r H', runQ wk tab slow K (d + 9) 28 [u, v, w] H = some (r, H') /\ Frame H H' /\ IsQR H' r (o - p * q) := by
 obtain ⟨x, H1, h1, f1, ix⟩ := rqmul_ok K hK (d + 1) H hv hw hp hq
 obtain ⟨r, H2, h2, f2, ir⟩ := rqsub_ok K hK d H1 (hu.fr f1) ix ho hpq
 obtain ⟨s, t, rfl, _⟩ := hu
 obtain ⟨s', t', rfl, _⟩ := hv
 obtain ⟨s2, t2, rfl, _⟩ := hw
 obtain ⟨s3, t3, rfl, _⟩ := ix
 have ir' := ir
 obtain ⟨s5, t5, rfl, _⟩ := ir'
 refine ⟨_, H2, ?_, Frame.trans f1 f2, ir⟩
 rw [rqless_run]
 simp only [f28, z_bbox, z_lload3, h1, z_call, z_ext0, z_ext1, z_bst3, h2, z_resc3]
theorem rwhole_run (K d : Nat) (H : Heap) (a v : SV) : runQ wk tab slow K (d + 6) 69 [a, v] H = f69 slow K (runQ wk tab slow K (d + 5)) a v H := Eq.trans rfl rfl
theorem rwhole_ok (K : Nat) (hK : 3000000 < K) (d : Nat) (H : Heap) {v : SV} {z : Int} (hv : IsR H v z.natAbs) (hz : z.natAbs < 2 ^ 4096) :
  ∃ H', runQ wk tab slow K (d + 6) 69 [.bool (decide (z < 0)), v] H = some (.str (textZ z), H') /\ Frame H H' := by
 have k1 := big_rd hz
 have k2 := big_dec hz
 obtain ⟨H1, h1, f1⟩ := rtext_ok K d H hv hK (by omega) (by omega)
 refine ⟨H1, ?_, f1⟩
 rw [rwhole_run]
 by_cases h : z < 0
 ·have h5 := dec_len z.natAbs
  have hne : (rdigs z.natAbs).length > 0 := List.length_pos_iff.2 fun e => by have := rdigs_nil.1 e; omega
  have e1 : ∀ k, slow.gtr (i64 (rdigs z.natAbs).length) (.int .i64 0) k = k (.bool true) := fun k => by rw [show (SV.int .i64 0) = i64 0 from rfl, n_gtr, decide_eq_true hne]
  have e2 : ∀ k, slow.add (.str [45]) (.str (dec z.natAbs)) k = k (.str (45 :: dec z.natAbs)) := fun k => z_sadd k (by rw [List.length_singleton]; omega)
  simp only [f69, h1, z_call, decide_eq_true h, z_guard, cond_true, rlen hv, e1, f69_j1, z_cond, e2, f69_j2, z_rest_str]
  simp [textZ, h]
 ·simp only [f69, h1, z_call, decide_eq_false h, z_guard, cond_false, f69_j1, z_cond, f69_j2, z_rest_str]
  simp [textZ, h]
theorem rqtext_j (K : Nat) (hK : 3000000 < K) (d : Nat) {H : Heap} {q : Rat} {x y : SV} {t : Sl} (ht : IsR H (.slice t) q.den) (hq : QS q) :
  ∃ H', f31_j1 slow K (runQ wk tab slow K (d + 6)) (.box [x, y, .slice t]) (.str (textZ q.num)) (.bool (decide (q.den ≠ 1))) H = some (.str (textQ q), H') /\ Frame H H' := by
 by_cases h : q.den = 1
 ·refine ⟨H, ?_, Fr.refl _ _⟩
  rw [decide_eq_false (by simpa using h)]
  unfold textQ
  rw [if_pos h]
  simp only [f31_j1, z_cond, cond_false, f31_j2, z_rest_str]
 ·have ln := lt_4096 (lt_3000 hq.1)
  have ld := lt_4096 (lt_3000 hq.2)
  have k1 := big_rd ld
  have k2 := dec_bits ld
  obtain ⟨H1, h1, f1⟩ := rtext_ok K (d + 1) H ht hK (by omega) (by omega)
  refine ⟨H1, ?_, f1⟩
  have lz : (textZ q.num).length <= 5000 := by
   unfold textZ
   have := dec_bits ln
   have := dec_len q.num.natAbs
   split <;> (try rw [List.length_cons]) <;> omega
  have ldd : (dec q.den).length <= 5000 := by
   have := dec_len q.den
   omega
  have a1 : ∀ k, slow.add (.str (textZ q.num)) (.str [47]) k = k (.str (textZ q.num ++ [47])) := fun k => z_sadd k (by rw [List.length_singleton]; omega)
  have a2 : ∀ k, slow.add (.str (textZ q.num ++ [47])) (.str (dec q.den)) k = k (.str (textZ q.num ++ [47] ++ dec q.den)) := fun k => z_sadd k (by rw [List.length_append, List.length_singleton]; omega)
  rw [decide_eq_true (by simpa using h)]
  unfold textQ
  rw [if_neg h]
  simp only [f31_j1, z_cond, cond_true, a1, z_lfld, z_lld3, h1, z_call, a2, f31_j2, z_rest_str, List.append_assoc, List.singleton_append]
theorem rqtext_run (K d : Nat) (H : Heap) (v : SV) : runQ wk tab slow K (d + 7) 31 [v] H = f31 slow K (runQ wk tab slow K (d + 6)) v H := Eq.trans rfl rfl
theorem rqtext_ok (K : Nat) (hK : 3000000 < K) (d : Nat) (H : Heap) {v : SV} {q : Rat} (hv : IsQR H v q) (hq : QS q) :
  ∃ H', runQ wk tab slow K (d + 7) 31 [v] H = some (.str (textQ q), H') /\ Frame H H' := by
 obtain ⟨s, t, rfl, h1, h2⟩ := hv
 have hp := q.den_pos
 obtain ⟨H1, g1, f1⟩ := rwhole_ok K hK d H h1 (lt_4096 (lt_3000 hq.1))
 have h2' := h2.fr f1
 obtain ⟨H2, g2, f2⟩ := rqtext_j K hK d (x := .bool (decide (q.num < 0))) (y := .slice s) h2' hq
 refine ⟨H2, ?_, Frame.trans f1 f2⟩
 rw [rqtext_run]
 by_cases hD : q.den < D
 ·have ed : rdigs q.den = [q.den] := by
   rw [rdigs_pos (by omega), Nat.div_eq_of_lt hD, rdigs_zero, Nat.mod_eq_of_lt hD]
  have e1 : ∀ k, slow.gtr (i64 (rdigs q.den).length) (.int .i64 1) k = k (.bool false) := fun k => by rw [ed, z_gtr]; rfl
  have e2 : ∀ k, slow.eql (i64 (rdigs q.den).length) (.int .i64 1) k = k (.bool true) := fun k => by rw [ed, z_eql]; rfl
  have e3 := Arr.load h2' (i := 0) (x := u32 q.den) (by rw [ed]; rfl) .i64
  have e4 : decide (q.den > 1) = decide (q.den ≠ 1) := decide_eq_decide.2 (by omega)
  have e5 : ∀ k, slow.gtr (u32 q.den) (.int .u32 1) k = k (.bool (decide (q.den ≠ 1))) := fun k => by rw [show (SV.int .u32 1) = u32 1 from rfl, n_gtr, e4]
  have e3' : ∀ k, slow.idx 1 (.slice t) (.int .i64 0) (fun p => slow.load 1 false p H1 k) = k (u32 q.den) := e3
  simp only [f31, z_bbox, z_lfld, z_lld0, z_lld1, g1, z_call, z_lld3, rlen h2', e1, z_guard, cond_false, e2, cond_true, e3', e5]
  exact g2
 ·have e0 : 1 < (rdigs q.den).length := by
   rw [rdigs_pos (by omega), List.length_cons]
   have : 0 < (rdigs (q.den / D)).length := List.length_pos_iff.2 fun e => by
    have := rdigs_nil.1 e
    have := Nat.div_pos (a := q.den) (b := D) (by omega) (by decide)
    omega
   omega
  have e1 : ∀ k, slow.gtr (i64 (rdigs q.den).length) (.int .i64 1) k = k (.bool true) := fun k => by rw [show (SV.int .i64 1) = i64 1 from rfl, n_gtr, decide_eq_true e0]
  have hne : q.den ≠ 1 := fun e => hD (by rw [e]; decide)
  rw [decide_eq_true hne] at g2
  simp only [f31, z_bbox, z_lfld, z_lld0, z_lld1, g1, z_call, z_lld3, rlen h2', e1, z_guard, cond_true]
  exact g2
end Go.Sh.Of

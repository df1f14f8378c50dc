/- Contracts of the reference's layer 5: Sum, Product, Transpose, Same. -/
import Derived.Test.YtdibokcaoefeaaaRefQ
set_option linter.unusedVariables false
set_option linter.unusedSimpArgs false
namespace Go.Sh.Of
open Go

theorem range_snoc {f : Nat → Int} (j : Nat) : (List.range j).map f ++ [f j] = (List.range (j + 1)).map f := by rw [List.range_succ]; simp
theorem range_snocR {f : Nat → List Int} (j : Nat) : (List.range j).map f ++ [f j] = (List.range (j + 1)).map f := by rw [List.range_succ]; simp
theorem two_add (a b c : Nat) (h : a + b = c) : 2 ^ a * 2 ^ b = 2 ^ c := by rw [← Nat.pow_add, h]
theorem mul_lt_pow (k : Nat) {a b : Nat} (ha : a < 2 ^ k) (hb : b < 2 ^ k) : a * b < 2 ^ k * 2 ^ k := Nat.mul_lt_mul'' ha hb
theorem mul_mono2 (k x y : Nat) (h : x ≤ y) : 2 ^ k * x ≤ 2 ^ k * y := Nat.mul_le_mul_left _ h
theorem powD_mono (a b : Nat) (h : a ≤ b) : D ^ a ≤ D ^ b := Nat.pow_le_pow_right (by decide) h
theorem sum_len {a b : Int} (ha : a.natAbs < 2 ^ 4096) (hb : b.natAbs < 2 ^ 4096) : (rdigs (a + b).natAbs).length < 100000 := by
  have h1 : (a + b).natAbs < 2 ^ 4112 := by
    have e := two_add 4096 16 4112 (by decide)
    have h16 := mul_mono2 4096 2 (2 ^ 16) (by decide)
    omega
  have := rdigs_len_le (k := 257) (n := (a + b).natAbs) (by rw [pow_D (m := 257) (k := 4112) rfl]; exact h1)
  omega
theorem prod_len {a b : Int} (ha : a.natAbs < 2 ^ 4096) (hb : b.natAbs < 2 ^ 4096) : (rdigs (a * b).natAbs).length ≤ 512 := by
  apply rdigs_len_le
  rw [Int.natAbs_mul, pow_D (m := 512) (k := 8192) rfl]
  have h1 := mul_lt_pow 4096 ha hb
  have e := two_add 4096 4096 8192 (by decide)
  rw [← e]
  exact h1
theorem sum_len2 {a b : Int} (ha : a.natAbs < 2 ^ 4096) (hb : (rdigs b.natAbs).length ≤ 512) : (rdigs (a + b).natAbs).length < 100000 := by
  have h1 : b.natAbs < 2 ^ 8192 := by
    have := rdigs_lt b.natAbs
    have h2 := powD_mono (rdigs b.natAbs).length 512 hb
    rw [pow_D (m := 512) (k := 8192) rfl] at h2
    omega
  have h3 := pow_mono2 4096 8192 (by decide)
  have h4 : (a + b).natAbs < 2 ^ 8208 := by
    have e := two_add 8192 16 8208 (by decide)
    have h16 := mul_mono2 8192 2 (2 ^ 16) (by decide)
    omega
  have := rdigs_len_le (k := 513) (n := (a + b).natAbs) (by rw [pow_D (m := 513) (k := 8208) rfl]; exact h4)
  omega
/-! ### Sum -/
theorem rsum_in (K : Nat) (hK : 3000000 < K) (d : Nat) {H0 Hi : Heap} (h0i : Frame H0 Hi) {la lb : Nat} {v w : SV} {A B : List (List Int)} (hv : IsRRows la H0 v A) (hw : IsRRows lb H0 w B) (ha : Good A) (hb : Good B) (hl : A.length = B.length) (hc : colsOf A = colsOf B) {i : Nat} (hi : i < A.length) {lo : Nat} {out : SV} {rows : List (List Int)} (ho : ROut lo Hi out rows) (hlo : lo ≤ Hi.size) (hrl : rows.length = i) (k11 : SV → SV → SV → SV → Heap → Rs) : ∀ (m j fuel : Nat) (H : Heap) (t : SV), j + m = colsOf A → m < fuel → Frame Hi H → RRow Hi.size H t ((List.range j).map (addEnt A B i)) →
    (stIn (addErr A B) i j m 0 = 0 ∧ ∃ out' H', slow.loop6 (f14_l5 slow K (runQ wk tab slow K (d + 3)) k11) fuel v w out (i64 i) t (i64 j) H = k11 v w out' (i64 (i + 1)) H' ∧ Fr lo Hi H' ∧ ROut lo H' out' (rows ++ [rowOfE (addEnt A B) (colsOf A) i])) ∨
    (stIn (addErr A B) i j m 0 ≠ 0 ∧ ∃ H', slow.loop6 (f14_l5 slow K (runQ wk tab slow K (d + 3)) k11) fuel v w out (i64 i) t (i64 j) H = some (.tuple [.slice nilSl, .int .i64 (stIn (addErr A B) i j m 0)], H') ∧ Frame Hi H')
  | 0, j, fuel, H, t, hjm, hf, hfr, ht => by
    obtain ⟨fuel, rfl⟩ : ∃ m, fuel = m + 1 := ⟨fuel - 1, by omega⟩
    have hj : j = colsOf A := by omega
    subst hj
    have hr := ha.rows
    obtain ⟨u, g1, g2⟩ := (hv.fr (Frame.trans h0i hfr)).rowlen ha hi
    obtain ⟨out', H2, hp, ho2, f2⟩ := ho.push hlo hfr ht (by omega)
    refine .inl ⟨rfl, out', H2, ?_, f2, ho2⟩
    rw [z_loop6]
    have hlt : ¬ colsOf A < colsOf A := Nat.lt_irrefl _
    simp only [f14_l5, g1, g2, n_lss, decide_eq_false hlt, z_cond, cond_false, hp]
    rw [show (SV.int .i64 1) = i64 1 from rfl, n_addi _ (by omega)]
  | m + 1, j, fuel, H, t, hjm, hf, hfr, ht => by
    obtain ⟨fuel, rfl⟩ : ∃ m, fuel = m + 1 := ⟨fuel - 1, by omega⟩
    have hj : j < colsOf A := by omega
    have hc16 := ha.c16
    obtain ⟨u, x, g1, g2, g3, g4, g5⟩ := (hv.fr (Frame.trans h0i hfr)).entry ha hi hj
    obtain ⟨u', x', g1', g2', g3', g4', g5'⟩ := (hw.fr (Frame.trans h0i hfr)).entry hb (i := i) (j := j) (by omega) (by omega)
    obtain ⟨r, H1, h1, f1, hr⟩ := rzadd_ok K hK d H g4 g4' (by have := rbig g5; omega) (by have := rbig g5'; omega)
    obtain ⟨b, s, rfl⟩ := hr.agg
    have h2 := rzlong_ok K (by omega) (d + 1) H1 hr (by have := sum_len g5 g5'; omega)
    rw [z_loop6]
    simp only [f14_l5, g1, g2, g3, g1', g2', g3', n_lss, decide_eq_true hj, z_cond, cond_true, h1, z_call, z_bst2, z_lfld, z_lld1, h2]
    by_cases hfit : (ent A i j + ent B i j).natAbs < 2 ^ 4096
    · obtain ⟨t', H2, hp, ht2, f2⟩ := (ht.fr f1).push (Nat.le_trans hfr.size f1.size) (z := addEnt A B i j) hr (by simp; omega)
      rw [range_snoc] at ht2
      have e4 : stIn (addErr A B) i j (m + 1) 0 = stIn (addErr A B) i (j + 1) m 0 := by
        simp only [stIn, if_pos]
        rw [show addErr A B i j = 0 from errZ_yes hfit]
      rw [e4]
      simp only [decide_eq_true hfit, Bool.not_true, cond_false, z_lload2, hp]
      rw [show (SV.int .i64 1) = i64 1 from rfl, n_addi _ (by omega)]
      have hF : Frame Hi H2 := Fr.trans (Frame.trans hfr f1) f2
      exact rsum_in K hK d h0i hv hw ha hb hl hc hi ho hlo hrl k11 m (j + 1) fuel H2 t' (by omega) (by omega) hF ht2
    · have e3 : addErr A B i j = 3 := errZ_no hfit
      have e4 : stIn (addErr A B) i j (m + 1) 0 = 3 := by
        simp only [stIn, if_pos]
        rw [e3, stIn_ne (by decide)]
      rw [e4]
      refine .inr ⟨by decide, H1, ?_, Frame.trans hfr f1⟩
      simp only [decide_eq_false hfit, Bool.not_false, cond_true]
theorem rsum_out (K : Nat) (hK : 3000000 < K) (d : Nat) {H0 : Heap} {la lb : Nat} {v w : SV} {A B : List (List Int)} (hv : IsRRows la H0 v A) (hw : IsRRows lb H0 w B) (ha : Good A) (hb : Good B) (hl : A.length = B.length) (hc : colsOf A = colsOf B) : ∀ (m i fuel : Nat) (H : Heap) (out : SV), i + m = A.length → m < fuel → Frame H0 H → ROut H0.size H out ((List.range i).map (rowOfE (addEnt A B) (colsOf A))) →
    ∃ r H', slow.loop4 (f14_l3 slow K (runQ wk tab slow K (d + 3))) fuel v w out (i64 i) H = some (.tuple [r, .int .i64 (stOut (addErr A B) (colsOf A) i m 0)], H') ∧ Frame H0 H' ∧ IsRRows H0.size H' r (if stOut (addErr A B) (colsOf A) i m 0 = 0 then addM A B else [])
  | 0, i, fuel, H, out, him, hf, hfr, ho => by
    obtain ⟨fuel, rfl⟩ : ∃ m, fuel = m + 1 := ⟨fuel - 1, by omega⟩
    have hi : i = A.length := by omega
    subst hi
    refine ⟨out, H, ?_, hfr, ho.rrows⟩
    rw [z_loop4]
    have hlt : ¬ A.length < A.length := Nat.lt_irrefl _
    simp only [f14_l3, (hv.fr hfr).len, n_lss, decide_eq_false hlt, z_cond, cond_false, z_rest ho.good]
    rfl
  | m + 1, i, fuel, H, out, him, hf, hfr, ho => by
    obtain ⟨fuel, rfl⟩ : ∃ m, fuel = m + 1 := ⟨fuel - 1, by omega⟩
    have hlt : i < A.length := by omega
    have hr := ha.rows
    have hc16 := ha.c16
    rw [z_loop4]
    simp only [f14_l3, (hv.fr hfr).len, n_lss, decide_eq_true hlt, z_cond, cond_true]
    rw [show (SV.int .i64 0) = i64 0 from rfl]
    rcases rsum_in K hK d (H0 := H0) (Hi := H) hfr hv hw ha hb hl hc hlt ho hfr.size (by simp) (slow.loop4 (f14_l3 slow K (runQ wk tab slow K (d + 3))) fuel) (colsOf A) 0 K H (.slice nilSl) (by omega) (by omega) (Fr.refl _ _) (RRow.nil _ _) with ⟨e1, out', H1, h1, f1, ho1⟩ | ⟨e1, H1, h1, f1⟩
    · have e2 : stOut (addErr A B) (colsOf A) i (m + 1) 0 = stOut (addErr A B) (colsOf A) (i + 1) m 0 := by simp only [stOut]; rw [e1]
      rw [range_snocR] at ho1
      rw [h1, e2]
      exact rsum_out K hK d hv hw ha hb hl hc m (i + 1) fuel H1 out' (by omega) (by omega) (Fr.trans hfr f1) ho1
    · have e2 : stOut (addErr A B) (colsOf A) i (m + 1) 0 = stIn (addErr A B) i 0 (colsOf A) 0 := by simp only [stOut]; rw [stOut_ne e1]
      rw [h1, e2, if_neg e1]
      exact ⟨_, H1, rfl, Frame.trans hfr f1, IsRRows.nil _ _⟩
theorem rsum_ok (K : Nat) (hK : 3000000 < K) (d : Nat) (H : Heap) {la lb : Nat} {v w : SV} {A B : List (List Int)} (hv : IsRRows la H v A) (hw : IsRRows lb H w B) (ha : Good A) (hb : Good B) :
    ∃ r H', runQ wk tab slow K (d + 4) 14 [v, w] H = some (.tuple [r, .int .i64 (addE A B)], H') ∧ Frame H H' ∧ IsRRows H.size H' r (if addE A B = 0 then addM A B else []) := by
  show ∃ r H', f14 slow K (runQ wk tab slow K (d + 3)) v w H = _ ∧ _
  have c1 := rcols_ok K (d + 2) H hv
  have c2 := rcols_ok K (d + 2) H hw
  have bad : addE A B = 5 → ∃ r H', f14_j1 slow K (runQ wk tab slow K (d + 3)) v w (.bool true) H = some (.tuple [r, .int .i64 (addE A B)], H') ∧ Frame H H' ∧ IsRRows H.size H' r (if addE A B = 0 then addM A B else []) := fun e => by
    rw [e]
    exact ⟨_, H, rfl, Fr.refl _ _, IsRRows.nil _ _⟩
  simp only [f14, hv.len, hw.len, n_neq, z_guard]
  by_cases h1 : A.length = B.length
  · have hn1 : ¬ A.length ≠ B.length := fun h => h h1
    rw [decide_eq_false hn1]
    simp only [cond_false, c1, c2, z_call, n_neq]
    by_cases h2 : colsOf A = colsOf B
    · have hn2 : ¬ colsOf A ≠ colsOf B := fun h => h h2
      have e : addE A B = stOut (addErr A B) (colsOf A) 0 A.length 0 := if_pos ⟨h1, h2⟩
      have hr := ha.rows
      rw [decide_eq_false hn2, e]
      simp only [f14_j1, z_cond, cond_false]
      exact rsum_out K hK d hv hw ha hb h1 h2 A.length 0 K H (.slice nilSl) (by omega) (by omega) (Fr.refl _ _) (ROut.nil _ _)
    · rw [decide_eq_true h2]
      exact bad (if_neg fun h => h2 h.2)
  · rw [decide_eq_true h1, cond_true]
    exact bad (if_neg fun h => h1 h.1)
/-! ### Transpose -/
theorem rtr_in (K : Nat) (hK : 1000 < K) (C : CallC) {H0 Hi : Heap} (h0i : Frame H0 Hi) {la : Nat} {v : SV} {A : List (List Int)} (hv : IsRRows la H0 v A) (ha : Good A) {j : Nat} (hj : j < colsOf A) {lo : Nat} {out : SV} {rows : List (List Int)} (ho : ROut lo Hi out rows) (hlo : lo ≤ Hi.size) (hrl : rows.length = j) (k5 : SV → SV → SV → Heap → Rs) : ∀ (m i fuel : Nat) (H : Heap) (t : SV), i + m = A.length → m < fuel → Frame Hi H → RRow Hi.size H t ((List.range i).map fun x => ent A x j) →
    ∃ out' H', slow.loop5 (f18_l3 slow K C k5) fuel v out (i64 j) t (i64 i) H = k5 v out' (i64 (j + 1)) H' ∧ Fr lo Hi H' ∧ ROut lo H' out' (rows ++ [rowOfE (fun y x => ent A x y) A.length j])
  | 0, i, fuel, H, t, him, hf, hfr, ht => by
    obtain ⟨fuel, rfl⟩ : ∃ m, fuel = m + 1 := ⟨fuel - 1, by omega⟩
    have hi : i = A.length := by omega
    subst hi
    have hc := ha.c16
    obtain ⟨out', H2, hp, ho2, f2⟩ := ho.push hlo hfr ht (by omega)
    refine ⟨out', H2, ?_, f2, ho2⟩
    rw [z_loop5]
    have hlt : ¬ A.length < A.length := Nat.lt_irrefl _
    simp only [f18_l3, (hv.fr (Frame.trans h0i hfr)).len, n_lss, decide_eq_false hlt, z_cond, cond_false, hp]
    rw [show (SV.int .i64 1) = i64 1 from rfl, n_addi _ (by omega)]
  | m + 1, i, fuel, H, t, him, hf, hfr, ht => by
    obtain ⟨fuel, rfl⟩ : ∃ m, fuel = m + 1 := ⟨fuel - 1, by omega⟩
    have hi : i < A.length := by omega
    have hr16 := ha.rows
    obtain ⟨u, x, g1, g2, g3, g4, g5⟩ := (hv.fr (Frame.trans h0i hfr)).entry ha hi hj
    obtain ⟨b, s, rfl⟩ := g4.agg
    obtain ⟨t', H2, hp, ht2, f2⟩ := ht.push hfr.size g4 (by simp; omega)
    rw [range_snoc (f := fun x => ent A x j)] at ht2
    obtain ⟨out', H3, h3, rest⟩ := rtr_in K hK C h0i hv ha hj ho hlo hrl k5 m (i + 1) fuel H2 t' (by omega) (by omega) (Fr.trans hfr f2) ht2
    refine ⟨out', H3, ?_, rest⟩
    rw [z_loop5]
    simp only [f18_l3, (hv.fr (Frame.trans h0i hfr)).len, n_lss, decide_eq_true hi, z_cond, cond_true, g1, g3, hp]
    rw [show (SV.int .i64 1) = i64 1 from rfl, n_addi _ (by omega)]
    exact h3
theorem rtr_out (K : Nat) (hK : 1000 < K) (d : Nat) {H0 : Heap} {la : Nat} {v : SV} {A : List (List Int)} (hv : IsRRows la H0 v A) (ha : Good A) : ∀ (m j fuel : Nat) (H : Heap) (out : SV), j + m = colsOf A → m < fuel → Frame H0 H → ROut H0.size H out ((List.range j).map (rowOfE (fun y x => ent A x y) A.length)) →
    ∃ r H', slow.loop3 (f18_l1 slow K (runQ wk tab slow K (d + 1))) fuel v out (i64 j) H = some (r, H') ∧ Frame H0 H' ∧ IsRRows H0.size H' r (trM A)
  | 0, j, fuel, H, out, hjm, hf, hfr, ho => by
    obtain ⟨fuel, rfl⟩ : ∃ m, fuel = m + 1 := ⟨fuel - 1, by omega⟩
    have hj : j = colsOf A := by omega
    subst hj
    have c1 := rcols_ok K d H (hv.fr hfr)
    refine ⟨out, H, ?_, hfr, ho.rrows⟩
    rw [z_loop3]
    have hlt : ¬ colsOf A < colsOf A := Nat.lt_irrefl _
    simp only [f18_l1, c1, z_call, n_lss, decide_eq_false hlt, z_cond, cond_false, z_rest ho.good]
  | m + 1, j, fuel, H, out, hjm, hf, hfr, ho => by
    obtain ⟨fuel, rfl⟩ : ∃ m, fuel = m + 1 := ⟨fuel - 1, by omega⟩
    have hj : j < colsOf A := by omega
    have hr16 := ha.rows
    have c1 := rcols_ok K d H (hv.fr hfr)
    obtain ⟨out', H1, h1, f1, ho1⟩ := rtr_in K hK (runQ wk tab slow K (d + 1)) (H0 := H0) (Hi := H) hfr hv ha hj ho hfr.size (by simp) (slow.loop3 (f18_l1 slow K (runQ wk tab slow K (d + 1))) fuel) A.length 0 K H (.slice nilSl) (by omega) (by omega) (Fr.refl _ _) (RRow.nil _ _)
    rw [range_snocR] at ho1
    obtain ⟨r, H2, h2, rest⟩ := rtr_out K hK d hv ha m (j + 1) fuel H1 out' (by omega) (by omega) (Fr.trans hfr f1) ho1
    refine ⟨r, H2, ?_, rest⟩
    rw [z_loop3]
    simp only [f18_l1, c1, z_call, n_lss, decide_eq_true hj, z_cond, cond_true]
    rw [show (SV.int .i64 0) = i64 0 from rfl, h1]
    exact h2
theorem rtrans_ok (K : Nat) (hK : 1000 < K) (d : Nat) (H : Heap) {la : Nat} {v : SV} {A : List (List Int)} (hv : IsRRows la H v A) (ha : Good A) :
    ∃ r H', runQ wk tab slow K (d + 2) 18 [v] H = some (r, H') ∧ Frame H H' ∧ IsRRows H.size H' r (trM A) := by
  have hc := ha.c16
  exact rtr_out K hK d hv ha (colsOf A) 0 K H (.slice nilSl) (by omega) (by omega) (Fr.refl _ _) (ROut.nil _ _)
/-! ### Same -/
theorem same_self (p : SV) (H : Heap) (t : Rs) {r : Nat × Nat} (hp : p = .ptr r) : slow.same p H H t = t := by
  subst hp
  show (bif sameRow (.ptr r) H H then t else none) = t
  have : sameRow (.ptr r) H H = true := by
    simp only [sameRow, rowOf]
    cases H.ver r.1 <;> simp [verEq]
  rw [this, cond_true]
theorem Arr.place {H : Heap} {v : SV} {cs : List SV} (h : Arr H v cs) {i : Nat} {x : SV} (hx : cs[i]? = some x) : ∃ r, (∀ k, slow.idx 1 v (i64 i) k = k (.ptr r)) ∧ ∀ k, slow.load 1 false (.ptr r) H k = k x := by
  obtain ⟨s, rfl, h2, h3⟩ := h
  have hi : i < cs.length := (List.getElem?_eq_some_iff.1 hx).1
  rcases h3 with rfl | ⟨r, o, row, b1, b2, b3, b4⟩
  · simp at hi
  · have hc : 0 ≤ (i : Int) ∧ (i : Int) < s.len := ⟨by omega, by rw [h2]; omega⟩
    refine ⟨(r, o + (i : Int).toNat * 1), fun k => ?_, fun k => ?_⟩
    · show (opP (.idx 1) [.slice s, i64 i]).bind _ = _
      simp only [opP, if_pos hc, b1, Option.bind_some]
    · show (opR (.load 1 false) [.ptr (r, o + (i : Int).toNat * 1)] H).bind k = _
      simp only [opR, Heap.read, b2, beq_ne b3, cond_false, Int.toNat_natCast, Nat.mul_one, cut_one (b4 i x hx), shaped, Option.bind_some]
theorem ArrS.place {n : Nat} (hn : 0 < n) {H : Heap} {v : SV} {els : List (List SV)} (h : ArrS n H v els) {i : Nat} {e : List SV} (he : els[i]? = some e) : ∃ r, (∀ k, slow.idx n v (i64 i) k = k (.ptr r)) ∧ ∀ k, slow.load n true (.ptr r) H k = k (.agg e) := by
  have hl := fun k => h.load hn he .i64 k
  obtain ⟨s, rfl, h2, h0, h3⟩ := h
  have hi : i < els.length := (List.getElem?_eq_some_iff.1 he).1
  rcases h3 with rfl | ⟨r, o, row, b1, b2, b3, b4⟩
  · simp at hi
  · have hc : 0 ≤ (i : Int) ∧ (i : Int) < s.len := ⟨by omega, by rw [h2]; omega⟩
    have hidx : ∀ k, slow.idx n (.slice s) (i64 i) k = k (.ptr (r, o + (i : Int).toNat * n)) := fun k => by
      show (opP (.idx n) [.slice s, i64 i]).bind _ = _
      simp only [opP, if_pos hc, b1, Option.bind_some]
    refine ⟨(r, o + (i : Int).toNat * n), hidx, fun k => ?_⟩
    have := hl k
    rw [hidx] at this
    exact this
theorem IsRRows.places {lo : Nat} {H : Heap} {v : SV} {A : List (List Int)} (h : IsRRows lo H v A) (hg : Good A) {i j : Nat} (hi : i < A.length) (hj : j < colsOf A) : ∃ r u q x, (∀ k, slow.idx 1 v (i64 i) k = k (.ptr r)) ∧ (∀ k, slow.load 1 false (.ptr r) H k = k u) ∧ (∀ k, slow.len u k = k (i64 (colsOf A))) ∧ (∀ k, slow.idx 2 u (i64 j) k = k (.ptr q)) ∧ (∀ k, slow.load 2 true (.ptr q) H k = k x) ∧ IsRZ H x (ent A i j) ∧ (ent A i j).natAbs < 2 ^ 4096 := by
  obtain ⟨zs, h1, h2, h3⟩ := hg.at hi hj
  obtain ⟨ws, g1, g2, g0, g3⟩ := h
  obtain ⟨w, hw⟩ : ∃ w, ws[i]? = some w := ⟨_, List.getElem?_eq_getElem (by omega)⟩
  obtain ⟨r, p1, p2⟩ := Arr.place g1 hw
  obtain ⟨els, e1, e2, e3⟩ := (g3 i w zs hw h1).1
  obtain ⟨e, he⟩ : ∃ e, els[j]? = some e := ⟨_, List.getElem?_eq_getElem (by have := (List.getElem?_eq_some_iff.1 h2).1; omega)⟩
  obtain ⟨q, p3, p4⟩ := ArrS.place (by decide) e1 he
  have hl := hg.rect zs (List.mem_of_getElem? h1)
  exact ⟨r, w, q, .agg e, p1, p2, fun k => by rw [e1.len, e2, hl], p3, p4, e3 j e _ he h2, h3⟩
theorem rsame_in (K : Nat) (hK : 3000000 < K) (d : Nat) {H0 : Heap} {la lb : Nat} {v w : SV} {A B : List (List Int)} (hv : IsRRows la H0 v A) (hw : IsRRows lb H0 w B) (ha : Good A) (hb : Good B) (hl : A.length = B.length) (hc : colsOf A = colsOf B) {i : Nat} (hi : i < A.length) (k9 : SV → SV → SV → Heap → Rs) : ∀ (m j fuel : Nat) (H : Heap), j + m = colsOf A → m < fuel → Frame H0 H →
    (∃ H', (∀ y, j ≤ y → y < colsOf A → ent A i y = ent B i y) ∧ slow.loop4 (f16_l5 slow K (runQ wk tab slow K (d + 3)) k9) fuel v w (i64 i) (i64 j) H = k9 v w (i64 (i + 1)) H' ∧ Frame H0 H') ∨ (∃ H', (∃ y, y < colsOf A ∧ ent A i y ≠ ent B i y) ∧ slow.loop4 (f16_l5 slow K (runQ wk tab slow K (d + 3)) k9) fuel v w (i64 i) (i64 j) H = some (.bool false, H') ∧ Frame H0 H')
  | 0, j, fuel, H, hjm, hf, hfr => by
    obtain ⟨fuel, rfl⟩ : ∃ m, fuel = m + 1 := ⟨fuel - 1, by omega⟩
    have hj : ¬ j < colsOf A := by omega
    have hr := ha.rows
    obtain ⟨u, g1, g2⟩ := (hv.fr hfr).rowlen ha hi
    refine .inl ⟨H, fun y h1 h2 => by omega, ?_, hfr⟩
    rw [z_loop4]
    simp only [f16_l5, g1, g2, n_lss, decide_eq_false hj, z_cond, cond_false]
    rw [show (SV.int .i64 1) = i64 1 from rfl, n_addi _ (by omega)]
  | m + 1, j, fuel, H, hjm, hf, hfr => by
    obtain ⟨fuel, rfl⟩ : ∃ m, fuel = m + 1 := ⟨fuel - 1, by omega⟩
    have hj : j < colsOf A := by omega
    have hc16 := ha.c16
    obtain ⟨r, u, q, x, p1, p2, p3, p4, p5, p6, p7⟩ := (hv.fr hfr).places ha hi hj
    obtain ⟨u', x', g1', g2', g3', g4', g5'⟩ := (hw.fr hfr).entry hb (i := i) (j := j) (by omega) (by omega)
    obtain ⟨n, hn, hnz⟩ := rzneg_ok K (d + 2) H g4'
    have hneg : (-(ent B i j)).natAbs < 2 ^ 4096 := by rw [Int.natAbs_neg]; exact g5'
    obtain ⟨z, H1, h1, f1, hz⟩ := rzadd_ok K hK d H p6 hnz (by have := rbig p7; omega) (by have := rbig hneg; omega)
    obtain ⟨s, rfl, hs⟩ := hz
    have hls : ∀ k, slow.len (.slice s) k = k (i64 (rdigs (ent A i j + -ent B i j).natAbs).length) := rlen hs
    rw [z_loop4]
    simp only [f16_l5, p1, p2, p3, p4, p5, g1', g3', n_lss, decide_eq_true hj, z_cond, cond_true, hn, z_call, h1, z_bst2, same_self _ _ _ rfl, z_lfld, z_lld1, hls, z_gtr, rlen_pos]
    by_cases he : ent A i j = ent B i j
    · have h0 : (ent A i j + -ent B i j).natAbs = 0 := by omega
      have hd : decide ((ent A i j + -ent B i j).natAbs ≠ 0) = false := decide_eq_false fun h => h h0
      rw [hd]
      simp only [cond_false]
      rw [show (SV.int .i64 1) = i64 1 from rfl, n_addi _ (by omega)]
      rcases rsame_in K hK d hv hw ha hb hl hc hi k9 m (j + 1) fuel H1 (by omega) (by omega) (Frame.trans hfr f1) with ⟨H2, q1, q2, q3⟩ | ⟨H2, q1, q2, q3⟩
      · refine .inl ⟨H2, fun y hy1 hy2 => ?_, q2, q3⟩
        by_cases hyj : y = j
        · rw [hyj]; exact he
        · exact q1 y (by omega) hy2
      · exact .inr ⟨H2, q1, q2, q3⟩
    · have hd : decide ((ent A i j + -ent B i j).natAbs ≠ 0) = true := decide_eq_true (by omega)
      rw [hd]
      exact .inr ⟨H1, ⟨j, hj, he⟩, rfl, Frame.trans hfr f1⟩
theorem rsame_out (K : Nat) (hK : 3000000 < K) (d : Nat) {H0 : Heap} {la lb : Nat} {v w : SV} {A B : List (List Int)} (hv : IsRRows la H0 v A) (hw : IsRRows lb H0 w B) (ha : Good A) (hb : Good B) (hl : A.length = B.length) (hc : colsOf A = colsOf B) : ∀ (m i fuel : Nat) (H : Heap), i + m = A.length → m < fuel → Frame H0 H →
    ∃ b H', ((b = true ∧ ∀ x y, i ≤ x → x < A.length → y < colsOf A → ent A x y = ent B x y) ∨ (b = false ∧ ∃ x y, x < A.length ∧ y < colsOf A ∧ ent A x y ≠ ent B x y)) ∧ slow.loop3 (f16_l3 slow K (runQ wk tab slow K (d + 3))) fuel v w (i64 i) H = some (.bool b, H') ∧ Frame H0 H'
  | 0, i, fuel, H, him, hf, hfr => by
    obtain ⟨fuel, rfl⟩ : ∃ m, fuel = m + 1 := ⟨fuel - 1, by omega⟩
    have hi : ¬ i < A.length := by omega
    refine ⟨true, H, .inl ⟨rfl, fun x y h1 h2 => by omega⟩, ?_, hfr⟩
    rw [z_loop3]
    simp only [f16_l3, (hv.fr hfr).len, n_lss, decide_eq_false hi, z_cond, cond_false]
  | m + 1, i, fuel, H, him, hf, hfr => by
    obtain ⟨fuel, rfl⟩ : ∃ m, fuel = m + 1 := ⟨fuel - 1, by omega⟩
    have hi : i < A.length := by omega
    have hc16 := ha.c16
    rw [z_loop3]
    simp only [f16_l3, (hv.fr hfr).len, n_lss, decide_eq_true hi, z_cond, cond_true]
    rw [show (SV.int .i64 0) = i64 0 from rfl]
    rcases rsame_in K hK d hv hw ha hb hl hc hi (slow.loop3 (f16_l3 slow K (runQ wk tab slow K (d + 3))) fuel) (colsOf A) 0 K H (by omega) (by omega) hfr with ⟨H1, q1, q2, q3⟩ | ⟨H1, ⟨y, q1, q4⟩, q2, q3⟩
    · rw [q2]
      obtain ⟨b, H2, hb2, h2, f2⟩ := rsame_out K hK d hv hw ha hb hl hc m (i + 1) fuel H1 (by omega) (by omega) q3
      refine ⟨b, H2, ?_, h2, f2⟩
      rcases hb2 with ⟨e, p⟩ | ⟨e, p⟩
      · refine .inl ⟨e, fun x y hx1 hx2 hy => ?_⟩
        by_cases hxi : x = i
        · rw [hxi]; exact q1 y (Nat.zero_le _) hy
        · exact p x y (by omega) hx2 hy
      · exact .inr ⟨e, p⟩
    · rw [q2]
      exact ⟨false, H1, .inr ⟨rfl, i, y, hi, q1, q4⟩, rfl, q3⟩
theorem rsame_ok (K : Nat) (hK : 3000000 < K) (d : Nat) (H : Heap) {la lb : Nat} {v w : SV} {A B : List (List Int)} (hv : IsRRows la H v A) (hw : IsRRows lb H w B) (ha : Good A) (hb : Good B) :
    ∃ H', runQ wk tab slow K (d + 4) 16 [v, w] H = some (.bool (decide (A = B)), H') ∧ Frame H H' := by
  show ∃ H', f16 slow K (runQ wk tab slow K (d + 3)) v w H = _ ∧ _
  have c1 := rcols_ok K (d + 2) H hv
  have c2 := rcols_ok K (d + 2) H hw
  simp only [f16, hv.len, hw.len, n_neq, z_guard]
  by_cases h1 : A.length = B.length
  · have hn1 : ¬ A.length ≠ B.length := fun h => h h1
    rw [decide_eq_false hn1]
    simp only [cond_false, c1, c2, z_call, n_neq]
    by_cases h2 : colsOf A = colsOf B
    · have hn2 : ¬ colsOf A ≠ colsOf B := fun h => h h2
      have hr := ha.rows
      rw [decide_eq_false hn2]
      simp only [f16_j1, z_cond, cond_false]
      rw [show (SV.int .i64 0) = i64 0 from rfl]
      obtain ⟨b, H1, hb1, h3, f3⟩ := rsame_out K hK d hv hw ha hb h1 h2 A.length 0 K H (by omega) (by omega) (Fr.refl _ _)
      rcases hb1 with ⟨e, p⟩ | ⟨e, x, y, p1, p2, p3⟩
      · rw [e] at h3
        rw [decide_eq_true (Good.ext ha hb h1 h2 fun i j hi hj => p i j (Nat.zero_le _) hi hj)]
        exact ⟨H1, h3, f3⟩
      · rw [e] at h3
        rw [decide_eq_false fun e => p3 (by rw [e])]
        exact ⟨H1, h3, f3⟩
    · rw [decide_eq_true h2, decide_eq_false fun e => h2 (by rw [e])]
      exact ⟨H, rfl, Fr.refl _ _⟩
  · rw [decide_eq_true h1, cond_true, decide_eq_false fun e => h1 (by rw [e])]
    exact ⟨H, rfl, Fr.refl _ _⟩
end Go.Sh.Of

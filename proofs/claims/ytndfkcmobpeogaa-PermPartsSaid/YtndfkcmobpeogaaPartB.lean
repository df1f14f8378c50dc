/- The statement of orbits that part the points: what is looked at. -/
import Derived.Test.YtndfkcmobpeogaaPartA
set_option linter.unusedVariables false
set_option linter.unusedSimpArgs false
namespace Go.Sh.Of
open Go

/-- What stands while the statement looks. -/
structure PCtx (H : Heap) (n : Nat) (F : Nat → Nat) (gens : List (List Int)) (vg : SV) (wg : List SV) (vr : SV) (ws : List SV) : Prop where
  hn : n ≤ 64
  two : gens.length = 2
  gA : Arr H vg wg
  gl : wg.length = gens.length
  gw : ∀ (g : Nat) w l, wg[g]? = some w → gens[g]? = some l → Arr H w (intsL .i64 l)
  gn : ∀ l ∈ gens, l.length = n ∧ Inj l ∧ ∀ x ∈ l, 0 ≤ x ∧ x < n
  rA : Arr H vr ws
  rl : ws.length = (orbsTo F n).length
  re : ∀ (q : Nat) w l, ws[q]? = some w → (orbsTo F n)[q]? = some l → Arr H w (natsL l)
  lf : IsLeast gens F
theorem PCtx.fr {H H' : Heap} {n : Nat} {F : Nat → Nat} {gens : List (List Int)} {vg : SV} {wg : List SV} {vr : SV} {ws : List SV} (h : PCtx H n F gens vg wg vr ws) (f : Frame H H') : PCtx H' n F gens vg wg vr ws :=
  ⟨h.hn, h.two, h.gA.fr f, h.gl, fun g w l a b => (h.gw g w l a b).fr f, h.gn, h.rA.fr f, h.rl, fun q w l a b => (h.re q w l a b).fr f, h.lf⟩
theorem PCtx.row {H : Heap} {n : Nat} {F : Nat → Nat} {gens : List (List Int)} {vg : SV} {wg : List SV} {vr : SV} {ws : List SV} (h : PCtx H n F gens vg wg vr ws) {q : Nat} {l : List Nat} (hl : (orbsTo F n)[q]? = some l) : ∃ w, ws[q]? = some w ∧ Arr H w (natsL l) := by
  obtain ⟨w, hw⟩ : ∃ w, ws[q]? = some w := ⟨_, List.getElem?_eq_getElem (by rw [h.rl]; exact (List.getElem?_eq_some_iff.1 hl).1)⟩
  exact ⟨w, hw, h.re q w l hw hl⟩
theorem PCtx.gen {H : Heap} {n : Nat} {F : Nat → Nat} {gens : List (List Int)} {vg : SV} {wg : List SV} {vr : SV} {ws : List SV} (h : PCtx H n F gens vg wg vr ws) {g : Nat} (hg : g < 2) : ∃ w l, wg[g]? = some w ∧ gens[g]? = some l ∧ Arr H w (intsL .i64 l) ∧ l ∈ gens := by
  obtain ⟨l, hl⟩ : ∃ l, gens[g]? = some l := ⟨_, List.getElem?_eq_getElem (by rw [h.two]; exact hg)⟩
  obtain ⟨w, hw⟩ : ∃ w, wg[g]? = some w := ⟨_, List.getElem?_eq_getElem (by rw [h.gl, h.two]; exact hg)⟩
  exact ⟨w, l, hw, hl, h.gw g w l hw hl, List.mem_of_getElem? hl⟩
/-- A point's image. -/
theorem PCtx.img {H : Heap} {n : Nat} {F : Nat → Nat} {gens : List (List Int)} {vg : SV} {wg : List SV} {vr : SV} {ws : List SV} (h : PCtx H n F gens vg wg vr ws) {l : List Int} (hl : l ∈ gens) {y : Nat} (hy : y < n) : ∃ k : Nat, l[y]? = some (k : Int) ∧ k < n ∧ F k = F y := by
  obtain ⟨a, b, c⟩ := h.gn l hl
  obtain ⟨x, hx⟩ : ∃ x, l[y]? = some x := ⟨_, List.getElem?_eq_getElem (by omega)⟩
  obtain ⟨c1, c2⟩ := c x (List.mem_of_getElem? hx)
  obtain ⟨k, rfl⟩ : ∃ k : Nat, x = k := ⟨x.toNat, by omega⟩
  exact ⟨k, hx, by omega, (h.lf.2.2 y k ⟨l, hl, hx⟩).symm⟩
theorem pp_init (K : Nat) (C : CallC) {H0 : Heap} {n : Nat} (hn : n ≤ 64) {v vg vr : SV} : ∀ (m i fuel : Nat) (H : Heap) (M : List Int), i + m = n → m < fuel → Frame H0 H → Own H0.size H v (intsL .i64 M) → M.length = n → (∀ j, j < i → M[j]? = some (-1)) →
    ∃ H' M', slow.loop5 (f4_l2 slow K C) fuel (i64 n) vg vr v (i64 i) H = slow.loop5 (f4_l6 slow K C) K (i64 n) vg vr v (i64 0) H' ∧ Frame H0 H' ∧ Own H0.size H' v (intsL .i64 M') ∧ M'.length = n ∧ ∀ j, j < n → M'[j]? = some (-1)
  | 0, i, fuel, H, M, him, hf, hfr, ho, hM, h1 => by
    obtain ⟨fuel, rfl⟩ : ∃ m, fuel = m + 1 := ⟨fuel - 1, by omega⟩
    have hi : i = n := by omega
    subst hi
    refine ⟨H, M, ?_, hfr, ho, hM, h1⟩
    rw [z_loop5]
    have hlt : ¬ i < i := Nat.lt_irrefl i
    simp only [f4_l2, n_lss, decide_eq_false hlt, z_cond, cond_false]
    rfl
  | m + 1, i, fuel, H, M, him, hf, hfr, ho, hM, h1 => by
    obtain ⟨fuel, rfl⟩ : ∃ m, fuel = m + 1 := ⟨fuel - 1, by omega⟩
    have hi : i < n := by omega
    obtain ⟨H1, st, ho1, f1, sz1, hro⟩ := ho.store (i := i) (by simp; omega) (x := .int .i64 (-1)) rfl .i64
    rw [show (intsL .i64 M).set i (.int .i64 (-1)) = intsL .i64 (M.set i (-1)) by simp [intsL, List.map_set]] at ho1
    obtain ⟨H2, M2, h2, f2, ho2, g2⟩ := pp_init K C hn (vg := vg) (vr := vr) m (i + 1) fuel H1 _ (by omega) (by omega) (Fr.trans hfr f1) ho1 (by simp [hM]) (fun j hj => by
      by_cases e : i = j
      · subst e
        rw [List.getElem?_set_self (by omega)]
      · rw [List.getElem?_set_ne e]
        exact h1 j (by omega))
    refine ⟨H2, M2, ?_, f2, ho2, g2⟩
    rw [z_loop5]
    simp only [f4_l2, n_lss, decide_eq_true hi, z_cond, cond_true, st]
    rw [show (SV.int .i64 1) = i64 1 from rfl, n_addi _ (by omega)]
    exact h2
theorem pp_row (K : Nat) (C : CallC) {H0 : Heap} {n : Nat} {F : Nat → Nat} {gens : List (List Int)} {vg : SV} {wg : List SV} {vr : SV} {ws : List SV} (hc : PCtx H0 n F gens vg wg vr ws) {v : SV} {i : Nat} (hi : i < 64) {l : List Nat} (hl : (orbsTo F n)[i]? = some l) (k36 : SV → SV → SV → SV → SV → Heap → Rs) : ∀ (rest : List Nat) (j fuel : Nat) (H : Heap) (M : List Int), l.drop j = rest → rest.length < fuel → Frame H0 H → Own H0.size H v (intsL .i64 M) → PInv F n i (l.take j) M →
    ∃ H' M', slow.loop6 (f4_l10 slow K C k36) fuel (i64 n) vg vr v (i64 i) (i64 j) H = k36 (i64 n) vg vr v (i64 (i + 1)) H' ∧ Frame H0 H' ∧ Own H0.size H' v (intsL .i64 M') ∧ PInv F n i l M'
  | [], j, fuel, H, M, hd, hf, hfr, ho, hM => by
    obtain ⟨fuel, rfl⟩ : ∃ m, fuel = m + 1 := ⟨fuel - 1, by omega⟩
    have hj : l.length ≤ j := List.drop_eq_nil_iff.1 hd
    rw [List.take_of_length_le hj] at hM
    obtain ⟨w, hw, hwa⟩ := (hc.fr hfr).row hl
    have hlt : ¬ j < l.length := by omega
    have hwl : ∀ k, slow.len w k = k (i64 l.length) := fun k => by rw [hwa.len, natsL_len]
    refine ⟨H, M, ?_, hfr, ho, hM⟩
    rw [z_loop6]
    simp only [f4_l10, (hc.fr hfr).rA.load hw, hwl, n_lss, decide_eq_false hlt, z_cond, cond_false]
    rw [show (SV.int .i64 1) = i64 1 from rfl, n_addi _ (by omega)]
  | y :: rest, j, fuel, H, M, hd, hf, hfr, ho, hM => by
    obtain ⟨fuel, rfl⟩ : ∃ m, fuel = m + 1 := ⟨fuel - 1, by omega⟩
    obtain ⟨hy, hd', hj, ht⟩ := drop_cons hd
    obtain ⟨w, hw, hwa⟩ := (hc.fr hfr).row hl
    have hwl : ∀ k, slow.len w k = k (i64 l.length) := fun k => by rw [hwa.len, natsL_len]
    obtain ⟨r, _, e, _, _⟩ := orb_at hl
    have hln : l.length ≤ n := by rw [e]; exact cls_len F n r
    have hn64 := hc.hn
    have hsort : l.Pairwise (· < ·) := by rw [e]; exact cls_sorted F n r
    have hyn : y < n := by
      have := List.mem_of_getElem? hy
      rw [e] at this
      exact (cls_mem.1 this).1
    have hny : y ∉ l.take j := fun hm => by
      obtain ⟨q, hq⟩ := List.getElem?_of_mem hm
      have hqj : q < j := by have := (List.getElem?_eq_some_iff.1 hq).1; simp at this; omega
      rw [List.getElem?_take_of_lt hqj] at hq
      have := sorted_get hsort hq hy hqj
      omega
    obtain ⟨hMy, hM1⟩ := hM.step hl (List.mem_of_getElem? hy) hny
    obtain ⟨H1, st1, ho1, f1, sz1, hro1⟩ := ho.store (i := y) (by simp; rw [hM.len]; exact hyn) (x := .int .i64 i) rfl .i64
    rw [show (intsL .i64 M).set y (.int .i64 i) = intsL .i64 (M.set y (i : Int)) by simp [intsL, List.map_set]] at ho1
    rw [← ht] at hM1
    obtain ⟨H2, M2, h2, g2⟩ := pp_row K C hc hi hl k36 rest (j + 1) fuel H1 _ hd' (by simp at hf; omega) (Fr.trans hfr f1) ho1 hM1
    have hj12 : f4_j12 slow K C (slow.loop6 (f4_l10 slow K C k36) fuel) (i64 n) vg vr v (i64 i) (i64 j) (.bool false) H = k36 (i64 n) vg vr v (i64 (i + 1)) H2 := by
      simp only [f4_j12, z_cond, cond_false, (hc.fr hfr).rA.load hw, hwa.load (natsL_get hy), st1]
      rw [show (SV.int .i64 1) = i64 1 from rfl, n_addi _ (by omega)]
      exact h2
    have hneg : decide ((-1 : Int) ≥ 0) = false := rfl
    refine ⟨H2, M2, ?_, g2⟩
    rw [z_loop6]
    simp only [f4_l10, (hc.fr hfr).rA.load hw, hwl, n_lss, decide_eq_true hj, z_cond, cond_true, z_gtr, z_guard, hwa.load (natsL_get hy), ho.arr.load (ints_get hMy), z_geq, hneg, hj12]
    by_cases h0 : j = 0
    · subst h0
      have hgt : ¬ (((0 : Nat) : Int) > 0) := by omega
      rw [decide_eq_false hgt, cond_false]
    · have hgt : ((j : Nat) : Int) > 0 := by omega
      obtain ⟨z, hz⟩ : ∃ z, l[j - 1]? = some z := ⟨_, List.getElem?_eq_getElem (by omega)⟩
      have hzy := sorted_get hsort hz hy (by omega)
      have hle : ¬ y ≤ z := by omega
      rw [decide_eq_true hgt, cond_true, show (SV.int .i64 1) = i64 1 from rfl, n_subi _ (by omega) (by omega)]
      simp only [hwa.load (natsL_get hz), n_leq, decide_eq_false hle, cond_false, z_guard]
theorem pp_rows (K : Nat) (hK : 1000 < K) (C : CallC) {H0 : Heap} {n : Nat} {F : Nat → Nat} {gens : List (List Int)} {vg : SV} {wg : List SV} {vr : SV} {ws : List SV} (hc : PCtx H0 n F gens vg wg vr ws) {v : SV} : ∀ (m i fuel : Nat) (H : Heap) (M : List Int), i + m = (orbsTo F n).length → m < fuel → Frame H0 H → Own H0.size H v (intsL .i64 M) → PInv F n i [] M →
    ∃ H' M', slow.loop5 (f4_l6 slow K C) fuel (i64 n) vg vr v (i64 i) H = slow.loop5 (f4_l18 slow K C) K (i64 n) vg vr v (i64 0) H' ∧ Frame H0 H' ∧ Own H0.size H' v (intsL .i64 M') ∧ PInv F n (orbsTo F n).length [] M'
  | 0, i, fuel, H, M, him, hf, hfr, ho, hM => by
    obtain ⟨fuel, rfl⟩ : ∃ m, fuel = m + 1 := ⟨fuel - 1, by omega⟩
    have hi : i = (orbsTo F n).length := by omega
    subst hi
    have hvl : ∀ k, slow.len vr k = k (i64 (orbsTo F n).length) := fun k => by rw [hc.rA.len, hc.rl]
    refine ⟨H, M, ?_, hfr, ho, hM⟩
    rw [z_loop5]
    have hlt : ¬ (orbsTo F n).length < (orbsTo F n).length := Nat.lt_irrefl _
    simp only [f4_l6, hvl, n_lss, decide_eq_false hlt, z_cond, cond_false]
    rfl
  | m + 1, i, fuel, H, M, him, hf, hfr, ho, hM => by
    obtain ⟨fuel, rfl⟩ : ∃ m, fuel = m + 1 := ⟨fuel - 1, by omega⟩
    have hi : i < (orbsTo F n).length := by omega
    have hvl : ∀ k, slow.len vr k = k (i64 (orbsTo F n).length) := fun k => by rw [hc.rA.len, hc.rl]
    obtain ⟨l, hl⟩ : ∃ l, (orbsTo F n)[i]? = some l := ⟨_, List.getElem?_eq_getElem hi⟩
    obtain ⟨w, hw, hwa⟩ := (hc.fr hfr).row hl
    have hwl : ∀ k, slow.len w k = k (i64 l.length) := fun k => by rw [hwa.len, natsL_len]
    obtain ⟨r, hr1, e, hr2, hr3⟩ := orb_at hl
    have hhead : l[0]? = some r := by rw [e]; exact cls_head hc.lf.1 hr2 hr3
    have hlen : l.length ≠ 0 := by have := (List.getElem?_eq_some_iff.1 hhead).1; omega
    have h64 : (orbsTo F n).length ≤ 64 := by
      rw [orbs_len]
      have := roots_len F n
      have := hc.hn
      omega
    have hll : l.length ≤ 64 := by
      rw [e]
      have := cls_len F n r
      have := hc.hn
      omega
    obtain ⟨H1, M1, h1, f1, o1, p1⟩ := pp_row K C hc (v := v) (i := i) (by omega) hl (slow.loop5 (f4_l6 slow K C) fuel) l 0 K H M (by simp) (by omega) hfr ho (by simpa using hM)
    obtain ⟨H2, M2, h2, g2⟩ := pp_rows K hK C hc m (i + 1) fuel H1 M1 (by omega) (by omega) f1 o1 (p1.next hl)
    have hj8 : f4_j8 slow K C (slow.loop5 (f4_l6 slow K C) fuel) (i64 n) vg vr v (i64 i) (.bool false) H = slow.loop5 (f4_l18 slow K C) K (i64 n) vg vr v (i64 0) H2 := by
      simp only [f4_j8, z_cond, cond_false]
      exact h1.trans h2
    have hz : ((l.length : Int) == 0) = false := by rw [beq_eq_false_iff_ne]; omega
    have hh : ∀ (w : SV) (l : List Nat) (r : Nat), Arr H w (natsL l) → l[0]? = some r → ∀ k, slow.idx 1 w (.int .i64 0) (fun p => slow.load 1 false p H k) = k (i64 r) := fun w l r ha hr k => ha.load (i := 0) (natsL_get hr) .i64 k
    refine ⟨H2, M2, ?_, g2⟩
    rw [z_loop5]
    simp only [f4_l6, hvl, n_lss, decide_eq_true hi, z_cond, cond_true, (hc.fr hfr).rA.load hw, hwl, z_eql, hz, z_guard, cond_false, z_gtr, hj8, hh w l r hwa hhead]
    by_cases h0 : i = 0
    · subst h0
      have hgt : ¬ (((0 : Nat) : Int) > 0) := by omega
      rw [decide_eq_false hgt, cond_false]
    · have hgt : ((i : Nat) : Int) > 0 := by omega
      obtain ⟨l', hl'⟩ : ∃ l', (orbsTo F n)[i - 1]? = some l' := ⟨_, List.getElem?_eq_getElem (by omega)⟩
      obtain ⟨w', hw', hwa'⟩ := (hc.fr hfr).row hl'
      obtain ⟨r', hr1', e', hr2', hr3'⟩ := orb_at hl'
      have hhead' : l'[0]? = some r' := by rw [e']; exact cls_head hc.lf.1 hr2' hr3'
      have hzy := sorted_get (roots_sorted F n) hr1' hr1 (by omega)
      have hle : ¬ r ≤ r' := by omega
      rw [decide_eq_true hgt, cond_true, show (SV.int .i64 1) = i64 1 from rfl, n_subi _ (by omega) (by omega)]
      simp only [(hc.fr hfr).rA.load hw', hh w' l' r' hwa' hhead', n_leq, decide_eq_false hle, hj8]
theorem pp_check (K : Nat) (C : CallC) {H : Heap} {n lo : Nat} {F : Nat → Nat} {gens : List (List Int)} {vg : SV} {wg : List SV} {vr : SV} {ws : List SV} (hc : PCtx H n F gens vg wg vr ws) {v : SV} {M : List Int} (ho : Own lo H v (intsL .i64 M)) (hM : PInv F n (orbsTo F n).length [] M) : ∀ (m i fuel : Nat), i + m = n → m < fuel →
    slow.loop5 (f4_l18 slow K C) fuel (i64 n) vg vr v (i64 i) H = slow.loop4 (f4_l24 slow K C) K (i64 n) vg vr (i64 0) H
  | 0, i, fuel, him, hf => by
    obtain ⟨fuel, rfl⟩ : ∃ m, fuel = m + 1 := ⟨fuel - 1, by omega⟩
    have hi : i = n := by omega
    subst hi
    rw [z_loop5]
    have hlt : ¬ i < i := Nat.lt_irrefl _
    simp only [f4_l18, n_lss, decide_eq_false hlt, z_cond, cond_false]
    rfl
  | m + 1, i, fuel, him, hf => by
    obtain ⟨fuel, rfl⟩ : ∃ m, fuel = m + 1 := ⟨fuel - 1, by omega⟩
    have hi : i < n := by omega
    have hn := hc.hn
    have ih := pp_check K C hc ho hM m (i + 1) fuel (by omega) (by omega)
    have hMi := hM.all hc.lf hi
    obtain ⟨w0, l0, a1, a2, a3, a4⟩ := hc.gen (g := 0) (by omega)
    obtain ⟨w1, l1, b1, b2, b3, b4⟩ := hc.gen (g := 1) (by omega)
    obtain ⟨k0, c1, c2, c3⟩ := hc.img a4 hi
    obtain ⟨k1, d1, d2, d3⟩ := hc.img b4 hi
    have hM0 := hM.all hc.lf c2
    rw [c3] at hM0
    have hM1 := hM.all hc.lf d2
    rw [d3] at hM1
    have g0 : ∀ k, slow.idx 1 vg (.int .i64 0) (fun p => slow.load 1 false p H k) = k w0 := fun k => hc.gA.load (i := 0) a1 .i64 k
    have g1 : ∀ k, slow.idx 1 vg (.int .i64 1) (fun p => slow.load 1 false p H k) = k w1 := fun k => hc.gA.load (i := 1) b1 .i64 k
    have hneg : ∀ k, slow.lss (.int .i64 (((roots F (F i)).length : Nat) : Int)) (.int .i64 0) k = k (.bool false) := fun k => by
      rw [z_lss, decide_eq_false (by omega)]
    rw [z_loop5]
    simp only [f4_l18, n_lss, decide_eq_true hi, z_cond, cond_true, ho.arr.load (ints_get hMi), hneg, z_guard, cond_false, g0, g1, a3.load (ints_get c1), b3.load (ints_get d1), ho.arr.load (ints_get hM0), ho.arr.load (ints_get hM1), z_neq, bne_self_eq_false, f4_j20]
    rw [show (SV.int .i64 1) = i64 1 from rfl, n_addi _ (by omega)]
    exact ih
end Go.Sh.Of

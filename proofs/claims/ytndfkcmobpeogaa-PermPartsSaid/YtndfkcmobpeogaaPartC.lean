/- The statement of orbits that part the points: from its first point all others are met. -/
import Derived.Test.YtndfkcmobpeogaaPartB
set_option linter.unusedVariables false
set_option linter.unusedSimpArgs false
namespace Go.Sh.Of
open Go

theorem nodup_len {n : Nat} {R : List Nat} (h : R.Nodup) (hb : ∀ y ∈ R, y < n) : R.length ≤ n := by
  have := sub_len (B := List.range n) h fun x hx => List.mem_range.2 (hb x hx)
  rwa [List.length_range] at this
/-- The state while points are met. -/
structure BInv (H0 : Heap) (lo2 n : Nat) (F : Nat → Nat) (r : Nat) (vm : SV) (H : Heap) (R : List Nat) (t : SV) (Mt : List Nat) : Prop where
  fr : Frame H0 H
  lo : lo2 ≤ H.size
  vlo : ∀ r, inRow vm r → r < lo2
  mo : Own H0.size H vm (natsL Mt)
  ro : Own lo2 H t (natsL R)
  ml : Mt.length = n
  mt : ∀ y, y < n → Mt[y]? = some (if y ∈ R then 1 else 0)
  nd : R.Nodup
  cl : ∀ y ∈ R, y < n ∧ F y = r
theorem pp_gens (K : Nat) (C : CallC) {H0 : Heap} {n : Nat} {F : Nat → Nat} {gens : List (List Int)} {vg : SV} {wg : List SV} {vr : SV} {ws : List SV} (hc : PCtx H0 n F gens vg wg vr ws) {lo2 r x y i : Nat} {vm : SV} (h02 : H0.size ≤ lo2) (hx64 : x < 64) (k164 : SV → SV → SV → SV → SV → SV → SV → Heap → Rs) : ∀ (m g fuel : Nat) (H : Heap) (R : List Nat) (t : SV) (Mt : List Nat), g + m = 2 → m < fuel → BInv H0 lo2 n F r vm H R t Mt → R[x]? = some y → (∀ (g' : Nat) l, g' < g → gens[g']? = some l → ∃ k : Nat, l[y]? = some (k : Int) ∧ k ∈ R) →
    ∃ H' R' t' Mt', slow.loop8 (f4_l28 slow K C k164) fuel (i64 n) vg vr (i64 i) vm t (i64 x) (i64 g) H = k164 (i64 n) vg vr (i64 i) vm t' (i64 (x + 1)) H' ∧ BInv H0 lo2 n F r vm H' R' t' Mt' ∧ (∀ z ∈ R, z ∈ R') ∧ (∀ (j z : Nat), R[j]? = some z → R'[j]? = some z) ∧ ∀ l ∈ gens, ∃ k : Nat, l[y]? = some (k : Int) ∧ k ∈ R'
  | 0, g, fuel, H, R, t, Mt, hgm, hf, hB, hy, hg => by
    obtain ⟨fuel, rfl⟩ : ∃ m, fuel = m + 1 := ⟨fuel - 1, by omega⟩
    have hg2 : g = 2 := by omega
    subst hg2
    refine ⟨H, R, t, Mt, ?_, hB, fun z hz => hz, fun j z hz => hz, fun l hl => ?_⟩
    · rw [z_loop8]
      have h2 : ¬ (2 : Nat) < 2 := by omega
      rw [show (i64 2) = (SV.int .i64 ((2 : Nat) : Int)) from rfl]
      have hlt : ∀ k, slow.lss (.int .i64 ((2 : Nat) : Int)) (.int .i64 2) k = k (.bool false) := fun k => by rw [z_lss]; rfl
      simp only [f4_l28, hlt, z_cond, cond_false]
      rw [show (SV.int .i64 1) = i64 1 from rfl, n_addi _ (by omega)]
    · obtain ⟨q, hq⟩ := List.getElem?_of_mem hl
      exact hg q l (by have := (List.getElem?_eq_some_iff.1 hq).1; have := hc.two; omega) hq
  | m + 1, g, fuel, H, R, t, Mt, hgm, hf, hB, hy, hg => by
    obtain ⟨fuel, rfl⟩ : ∃ m, fuel = m + 1 := ⟨fuel - 1, by omega⟩
    have hg2 : g < 2 := by omega
    have hcH := hc.fr hB.fr
    obtain ⟨w, l, a1, a2, a3, a4⟩ := hcH.gen hg2
    obtain ⟨yn, yF⟩ := hB.cl y (List.mem_of_getElem? hy)
    obtain ⟨k, c1, c2, c3⟩ := hcH.img a4 yn
    have hMk := hB.mt k c2
    have hlt : ∀ k, slow.lss (i64 g) (.int .i64 2) k = k (.bool true) := fun k => by
      rw [show (SV.int .i64 2) = i64 2 from rfl, n_lss, decide_eq_true hg2]
    have hn := hc.hn
    have hRl := nodup_len hB.nd fun y hy => (hB.cl y hy).1
    have hstep : ∀ (R1 : List Nat) (t1 : SV) (Mt1 : List Nat) (H1 : Heap), BInv H0 lo2 n F r vm H1 R1 t1 Mt1 → (∀ z ∈ R, z ∈ R1) → (∀ (j z : Nat), R[j]? = some z → R1[j]? = some z) → k ∈ R1 →
        ∃ H' R' t' Mt', f4_j30 slow K C (slow.loop8 (f4_l28 slow K C k164) fuel) (i64 n) vg vr (i64 i) vm t1 (i64 x) (i64 g) H1 = k164 (i64 n) vg vr (i64 i) vm t' (i64 (x + 1)) H' ∧ BInv H0 lo2 n F r vm H' R' t' Mt' ∧ (∀ z ∈ R, z ∈ R') ∧ (∀ (j z : Nat), R[j]? = some z → R'[j]? = some z) ∧ ∀ l ∈ gens, ∃ k : Nat, l[y]? = some (k : Int) ∧ k ∈ R' := fun R1 t1 Mt1 H1 hB1 s1 s2 hk1 => by
      obtain ⟨H2, R2, t2, Mt2, h2, b2, s3, s4, s5⟩ := pp_gens K C hc h02 hx64 k164 m (g + 1) fuel H1 R1 t1 Mt1 (by omega) (by omega) hB1 (s2 x y hy) (fun g' l' hg' hl' => by
        by_cases e : g' = g
        · subst e
          rw [a2] at hl'
          cases hl'
          exact ⟨k, c1, hk1⟩
        · obtain ⟨k', e1, e2⟩ := hg g' l' (by omega) hl'
          exact ⟨k', e1, s1 k' e2⟩)
      refine ⟨H2, R2, t2, Mt2, ?_, b2, fun z hz => s3 z (s1 z hz), fun j z hz => s4 j z (s2 j z hz), s5⟩
      simp only [f4_j30]
      rw [show (SV.int .i64 1) = i64 1 from rfl, n_addi _ (by omega)]
      exact h2
    by_cases hkR : k ∈ R
    · rw [if_pos hkR] at hMk
      obtain ⟨H2, R2, t2, Mt2, h2, g2⟩ := hstep R t Mt H hB (fun z hz => hz) (fun j z hz => hz) hkR
      refine ⟨H2, R2, t2, Mt2, ?_, g2⟩
      rw [z_loop8]
      have he : ((((1 : Nat) : Int)) == 0) = false := rfl
      simp only [f4_l28, hlt, z_cond, cond_true, hcH.gA.load a1, hB.ro.arr.load (natsL_get hy), a3.load (ints_get c1), hB.mo.arr.load (natsL_get hMk), z_eql, he, cond_false]
      exact h2
    · rw [if_neg hkR] at hMk
      obtain ⟨H1, st1, ho1, f1, sz1, hro1⟩ := hB.mo.store (i := k) (by rw [natsL_len, hB.ml]; exact c2) (x := i64 1) rfl .i64
      rw [natsL_set] at ho1
      have hro : Own lo2 H1 t (natsL R) := Own.ofr hB.ro fun q hq => hro1 q fun hv => by
        have h1 := hB.vlo q hv
        have h2 := (own_lt hB.ro hq).1
        omega
      obtain ⟨t', H2, hp, ho2, f2, ro2, _⟩ := pushO hro (by rw [sz1]; exact hB.lo) (.int .i64 0) (x := i64 k) rfl (by_ := 8) (roomy_small (by rw [natsL_len]; omega))
      have e1 : natsL R ++ [i64 k] = natsL (R ++ [k]) := by simp [natsL]
      rw [e1] at ho2
      have hB2 : BInv H0 lo2 n F r vm H2 (R ++ [k]) t' (Mt.set k 1) := by
        refine ⟨Fr.trans hB.fr (Fr.trans f1 (f2.mono h02)), by have := f2.size; rw [sz1] at this; exact Nat.le_trans hB.lo this, hB.vlo, Own.ofr ho1 fun q hq => f2.rows q (hB.vlo q hq), ho2, by rw [List.length_set]; exact hB.ml, fun z hz => ?_, ?_, fun z hz => ?_⟩
        · by_cases e : k = z
          · subst e
            rw [List.getElem?_set_self (by rw [hB.ml]; exact hz), if_pos (by simp)]
          · rw [List.getElem?_set_ne e, hB.mt z hz]
            have : (z ∈ R ++ [k]) ↔ z ∈ R := by
              rw [List.mem_append, List.mem_singleton]
              exact ⟨fun h => h.elim id fun h => absurd h.symm e, .inl⟩
            simp only [this]
        · rw [List.nodup_append]
          refine ⟨hB.nd, by simp, fun a ha b hb => ?_⟩
          rw [List.mem_singleton] at hb
          subst hb
          exact fun e => hkR (e ▸ ha)
        · rcases List.mem_append.1 hz with hz | hz
          · exact hB.cl z hz
          · rw [List.mem_singleton.1 hz]
            exact ⟨c2, c3.trans yF⟩
      obtain ⟨H3, R3, t3, Mt3, h3, g3⟩ := hstep (R ++ [k]) t' (Mt.set k 1) H2 hB2 (fun z hz => by simp [hz]) (fun j z hz => by
        rw [List.getElem?_append_left (List.getElem?_eq_some_iff.1 hz).1]
        exact hz) (by simp)
      refine ⟨H3, R3, t3, Mt3, ?_, g3⟩
      rw [z_loop8]
      have he : ((((0 : Nat) : Int)) == 0) = true := rfl
      simp only [f4_l28, hlt, z_cond, cond_true, hcH.gA.load a1, hB.ro.arr.load (natsL_get hy), a3.load (ints_get c1), hB.mo.arr.load (natsL_get hMk), z_eql, he, cond_true]
      rw [show (SV.int .i64 1) = i64 1 from rfl]
      simp only [st1, hp]
      exact h3
theorem pp_bfs (K : Nat) (hK : 1000 < K) (C : CallC) {H0 : Heap} {n : Nat} {F : Nat → Nat} {gens : List (List Int)} {vg : SV} {wg : List SV} {vr : SV} {ws : List SV} (hc : PCtx H0 n F gens vg wg vr ws) {lo2 r i : Nat} {vm : SV} (h02 : H0.size ≤ lo2) (hr : F r = r) (hrn : r < n) (hi : (orbsTo F n)[i]? = some (cls F n r)) (k138 : SV → SV → SV → SV → Heap → Rs) : ∀ (m x fuel : Nat) (H : Heap) (R : List Nat) (t : SV) (Mt : List Nat), n ≤ x + m → m < fuel → BInv H0 lo2 n F r vm H R t Mt → r ∈ R → (∀ y ∈ R.take x, ∀ l ∈ gens, ∃ k : Nat, l[y]? = some (k : Int) ∧ k ∈ R) →
    ∃ H', slow.loop7 (f4_l26 slow K C k138) fuel (i64 n) vg vr (i64 i) vm t (i64 x) H = k138 (i64 n) vg vr (i64 (i + 1)) H' ∧ Frame H0 H' := by
  intro m
  induction m with
  | zero =>
    intro x fuel H R t Mt hxm hf hB hrR hcl
    obtain ⟨fuel, rfl⟩ : ∃ m, fuel = m + 1 := ⟨fuel - 1, by omega⟩
    have hRl := nodup_len hB.nd fun y hy => (hB.cl y hy).1
    have hx : ¬ x < R.length := by omega
    rw [List.take_of_length_le (by omega)] at hcl
    have hlen := met_len hc.lf (n := n) (r := r) (fun l hl => (hc.gn l hl).2.1) hB.nd hrR hB.cl (fun l hl y hy => hcl y hy l hl)
    obtain ⟨w, hw, hwa⟩ := (hc.fr hB.fr).row hi
    have hwl : ∀ k, slow.len w k = k (i64 R.length) := fun k => by rw [hwa.len, natsL_len, ← hlen]
    have htl : ∀ k, slow.len t k = k (i64 R.length) := fun k => by rw [hB.ro.arr.len, natsL_len]
    have hi64 : i < 64 := by
      have h1 := (List.getElem?_eq_some_iff.1 hi).1
      rw [orbs_len] at h1
      have := roots_len F n
      have := hc.hn
      omega
    refine ⟨H, ?_, hB.fr⟩
    rw [z_loop7]
    simp only [f4_l26, htl, n_lss, decide_eq_false hx, z_cond, cond_false, (hc.fr hB.fr).rA.load hw, hwl, z_neq, bne_self_eq_false]
    rw [show (SV.int .i64 1) = i64 1 from rfl, n_addi _ (by omega)]
  | succ m ih =>
    intro x fuel H R t Mt hxm hf hB hrR hcl
    obtain ⟨fuel, rfl⟩ : ∃ m, fuel = m + 1 := ⟨fuel - 1, by omega⟩
    have hRl := nodup_len hB.nd fun y hy => (hB.cl y hy).1
    have htl : ∀ k, slow.len t k = k (i64 R.length) := fun k => by rw [hB.ro.arr.len, natsL_len]
    have hn := hc.hn
    by_cases hx : x < R.length
    · obtain ⟨y, hy⟩ : ∃ y, R[x]? = some y := ⟨_, List.getElem?_eq_getElem hx⟩
      obtain ⟨H1, R1, t1, Mt1, h1, b1, s1, s2, s3⟩ := pp_gens K C hc (i := i) h02 (by omega) (slow.loop7 (f4_l26 slow K C k138) fuel) 2 0 K H R t Mt (by omega) (by omega) hB hy (fun g' l hg' => by omega)
      obtain ⟨H2, h2, f2⟩ := ih (x + 1) fuel H1 R1 t1 Mt1 (by omega) (by omega) b1 (s1 r hrR) (fun z hz l hl => by
        obtain ⟨q, hq⟩ := List.getElem?_of_mem hz
        have hqx : q < x + 1 := by have := (List.getElem?_eq_some_iff.1 hq).1; simp at this; omega
        rw [List.getElem?_take_of_lt hqx] at hq
        by_cases e : q = x
        · subst e
          rw [s2 q y hy] at hq
          cases hq
          exact s3 l hl
        · obtain ⟨z', hz'⟩ : ∃ z', R[q]? = some z' := ⟨_, List.getElem?_eq_getElem (by omega)⟩
          rw [s2 q z' hz'] at hq
          cases hq
          obtain ⟨k, e1, e2⟩ := hcl z (List.mem_of_getElem? (i := q) (by rw [List.getElem?_take_of_lt (by omega)]; exact hz')) l hl
          exact ⟨k, e1, s1 k e2⟩)
      refine ⟨H2, ?_, f2⟩
      rw [z_loop7]
      simp only [f4_l26, htl, n_lss, decide_eq_true hx, z_cond, cond_true]
      exact h1.trans h2
    · rw [List.take_of_length_le (by omega)] at hcl
      have hlen := met_len hc.lf (n := n) (r := r) (fun l hl => (hc.gn l hl).2.1) hB.nd hrR hB.cl (fun l hl y hy => hcl y hy l hl)
      obtain ⟨w, hw, hwa⟩ := (hc.fr hB.fr).row hi
      have hwl : ∀ k, slow.len w k = k (i64 R.length) := fun k => by rw [hwa.len, natsL_len, ← hlen]
      have hi64 : i < 64 := by
        have h1 := (List.getElem?_eq_some_iff.1 hi).1
        rw [orbs_len] at h1
        have := roots_len F n
        omega
      refine ⟨H, ?_, hB.fr⟩
      rw [z_loop7]
      simp only [f4_l26, htl, n_lss, decide_eq_false hx, z_cond, cond_false, (hc.fr hB.fr).rA.load hw, hwl, z_neq, bne_self_eq_false]
      rw [show (SV.int .i64 1) = i64 1 from rfl, n_addi _ (by omega)]
theorem pp_met (K : Nat) (hK : 1000 < K) (C : CallC) (hC : ∀ H, C 8 [] H = some (.bool true, H)) {n : Nat} {F : Nat → Nat} {gens : List (List Int)} {vg : SV} {wg : List SV} {vr : SV} {ws : List SV} : ∀ (m i fuel : Nat) (H : Heap), PCtx H n F gens vg wg vr ws → i + m = (orbsTo F n).length → m < fuel →
    ∃ H', slow.loop4 (f4_l24 slow K C) fuel (i64 n) vg vr (i64 i) H = some (.bool true, H')
  | 0, i, fuel, H, hc, him, hf => by
    obtain ⟨fuel, rfl⟩ : ∃ m, fuel = m + 1 := ⟨fuel - 1, by omega⟩
    have hi : i = (orbsTo F n).length := by omega
    subst hi
    have hvl : ∀ k, slow.len vr k = k (i64 (orbsTo F n).length) := fun k => by rw [hc.rA.len, hc.rl]
    have hlt : ¬ (orbsTo F n).length < (orbsTo F n).length := Nat.lt_irrefl _
    refine ⟨H, ?_⟩
    rw [z_loop4]
    simp only [f4_l24, hvl, n_lss, decide_eq_false hlt, z_cond, cond_false, hC, z_call, z_rest_bool]
  | m + 1, i, fuel, H, hc, him, hf => by
    obtain ⟨fuel, rfl⟩ : ∃ m, fuel = m + 1 := ⟨fuel - 1, by omega⟩
    have hi : i < (orbsTo F n).length := by omega
    have hn := hc.hn
    have hvl : ∀ k, slow.len vr k = k (i64 (orbsTo F n).length) := fun k => by rw [hc.rA.len, hc.rl]
    obtain ⟨l, hl⟩ : ∃ l, (orbsTo F n)[i]? = some l := ⟨_, List.getElem?_eq_getElem hi⟩
    obtain ⟨r, hr1, e, hr2, hr3⟩ := orb_at hl
    subst e
    have hhead : (cls F n r)[0]? = some r := cls_head hc.lf.1 hr2 hr3
    obtain ⟨vm, H1, h1, o1, f1, in1, sz1⟩ := z_make (H := H) (lo := H.size) (Nat.le_refl _) 8 (.int .i64 0) n (by omega) (roomy_small (by omega)) .i64 .i64
    have e0 : List.replicate n (SV.int .i64 0) = natsL (List.replicate n 0) := by simp [natsL]
    rw [e0] at o1
    obtain ⟨H2, st2, o2, f2, sz2, ro2⟩ := o1.store (i := r) (by rw [natsL_len, List.length_replicate]; exact hr3) (x := i64 1) rfl .i64
    rw [natsL_set] at o2
    obtain ⟨t, H3, h3, o3, f3, in3, sz3⟩ := z_lay1 (H := H2) (lo := H2.size) (Nat.le_refl _) (.int .i64 0) (x := i64 r) rfl
    have hfr2 : Frame H H2 := Fr.trans f1 f2
    have hfr3 : Frame H H3 := Frame.trans hfr2 f3
    have hB : BInv H H2.size n F r vm H3 [r] t ((List.replicate n 0).set r 1) := by
      refine ⟨hfr3, f3.size, fun q hq => ?_, o2.fr f3, by simpa [natsL] using o3, by simp, fun y hy => ?_, by simp, fun y hy => ?_⟩
      · have := (own_lt o2 hq).2.1
        exact this
      · by_cases e : r = y
        · subst e
          rw [List.getElem?_set_self (by simpa using hr3), if_pos (by simp)]
        · rw [List.getElem?_set_ne e, if_neg (by simpa using fun h => e h.symm)]
          simp [hy]
      · rw [List.mem_singleton.1 hy]
        exact ⟨hr3, hr2⟩
    obtain ⟨H4, h4, f4'⟩ := pp_bfs K hK C hc hfr2.size hr2 hr3 hl (slow.loop4 (f4_l24 slow K C) fuel) n 0 K H3 [r] t _ (by omega) (by omega) hB (by simp) (fun y hy => by simp at hy)
    obtain ⟨H5, h5⟩ := pp_met K hK C hC m (i + 1) fuel H4 (hc.fr f4') (by omega) (by omega)
    obtain ⟨w, hw, hwa⟩ := hc.row hl
    have hh : ∀ {H' : Heap}, Frame H H' → ∀ k, slow.idx 1 w (.int .i64 0) (fun p => slow.load 1 false p H' k) = k (i64 r) := fun f k => (hwa.fr f).load (i := 0) (natsL_get hhead) .i64 k
    refine ⟨H5, ?_⟩
    rw [z_loop4]
    simp only [f4_l24, hvl, n_lss, decide_eq_true hi, z_cond, cond_true, h1, (hc.fr f1).rA.load hw, hh f1]
    rw [show (SV.int .i64 1) = i64 1 from rfl]
    simp only [st2, (hc.fr hfr2).rA.load hw, hh hfr2, h3]
    rw [show (SV.int .i64 0) = i64 0 from rfl, h4]
    exact h5
theorem parts_ok (K : Nat) (hK : 100000 < K) (d : Nat) (H : Heap) {a b : SV} {p q : List Int} (ha : Arr H a (intsL .u8 p)) (hb : Arr H b (intsL .u8 q)) (hp : ∀ x ∈ p, 0 ≤ x ∧ x < 256) (hq : ∀ x ∈ q, 0 ≤ x ∧ x < 256) {N : Nat} (hN : N < 256) :
    ∃ H', runQ wk tab slow K (d + 21) 4 [a, b, u8 N] H = some (.bool true, H') := by
  have hw : ∀ H, runQ wk tab slow K (d + 20) 8 [] H = some (.bool true, H) := fun H => rfl
  obtain ⟨n, hn⟩ : ∃ n, N % 30 + 1 = n := ⟨_, rfl⟩
  have hn1 : 0 < n := by omega
  have hn2 : n ≤ 30 := by have := Nat.mod_lt N (show 0 < 30 by omega); omega
  obtain ⟨w1, H1, la, h1, f1, o1, l1, k1⟩ := shuf_ok K (by omega) (d + 19) H hn1 (by omega) ha hp
  rw [show d + 19 + 1 = d + 20 from rfl] at h1
  obtain ⟨w2, H2, lb, h2, f2, o2, l2, k2⟩ := shuf_ok K (by omega) (d + 19) H1 hn1 (by omega) (hb.fr f1) hq
  rw [show d + 19 + 1 = d + 20 from rfl] at h2
  obtain ⟨vg, H3, h3, o3, f3, _, _⟩ := z_lay2 (H := H2) (lo := H2.size) (Nat.le_refl _) (.slice nilSl) (.slice nilSl) (x := w1) (y := w2) o1.arr.flat o2.arr.flat
  have hw1 : Arr H3 w1 (intsL .i64 la) := (o1.arr.fr f2).fr f3
  have hw2 : Arr H3 w2 (intsL .i64 lb) := o2.arr.fr f3
  have hg : IsLists H3 vg [la, lb] := ⟨[w1, w2], o3.arr, rfl, fun g w l hgw hgl => by
    match g, hgw, hgl with
    | 0, hgw, hgl => cases hgw; cases hgl; exact hw1
    | 1, hgw, hgl => cases hgw; cases hgl; exact hw2
    | g + 2, hgw, hgl => simp at hgw⟩
  have he : orbE (n : Int) [la, lb] = 0 := by
    have a1 : ¬ ((n : Nat) : Int) < 0 := by omega
    have a2 : ¬ ((n : Nat) : Int) > 64 := by omega
    have a3 : ¬ ([la, lb] : List (List Int)).length > 16 := by simp
    have b1 : ¬ ckE la ≠ 0 := fun h => h k1
    have b2 : ¬ ckE lb ≠ 0 := fun h => h k2
    have c1 : ¬ ((la.length : Nat) : Int) ≠ (n : Int) := fun h => h (by rw [l1])
    have c2 : ¬ ((lb.length : Nat) : Int) ≠ (n : Int) := fun h => h (by rw [l2])
    unfold orbE
    rw [if_neg a1, if_neg a2, if_neg a3]
    unfold genE
    rw [if_neg b1, if_neg c1]
    unfold genE
    rw [if_neg b2, if_neg c2]
    rfl
  obtain ⟨vr, H4, h4, f4', g4, _⟩ := orbits_ok K (by omega) (d + 18) H3 (n : Int) hg
  rw [show d + 18 + 2 = d + 20 from rfl, he] at h4
  obtain ⟨F, lf, ws, r1, r2, r3⟩ := g4 he
  rw [Int.toNat_natCast] at r2 r3
  obtain ⟨vo, H5, h5, o5, f5, _, _⟩ := z_make (H := H4) (lo := H4.size) (Nat.le_refl _) 8 (.int .i64 0) n (by omega) (roomy_small (by omega)) .i64 .i64
  have hfr : Frame H3 H5 := Frame.trans f4' f5
  have hc : PCtx H4 n F [la, lb] vg [w1, w2] vr ws := by
    obtain ⟨ws', x1, x2, x3⟩ := hg.fr f4'
    refine ⟨by omega, rfl, o3.arr.fr f4', rfl, fun g w l hgw hgl => ?_, fun l hl => ?_, r1, r2, r3, lf⟩
    · match g, hgw, hgl with
      | 0, hgw, hgl => cases hgw; cases hgl; exact hw1.fr f4'
      | 1, hgw, hgl => cases hgw; cases hgl; exact hw2.fr f4'
      | g + 2, hgw, hgl => simp at hgw
    · have hh : ∀ l : List Int, l.length = n → ckE l = 0 → l.length = n ∧ Inj l ∧ ∀ x ∈ l, 0 ≤ x ∧ x < n := fun l a b => ⟨a, ck_inj b, fun x hx => by
        have := ck_mem b x hx
        omega⟩
      rcases List.mem_cons.1 hl with rfl | hl
      · exact hh _ l1 k1
      · rw [List.mem_singleton.1 hl]
        exact hh _ l2 k2
  have e0 : List.replicate n (SV.int .i64 0) = intsL .i64 (List.replicate n 0) := by simp [intsL]
  rw [e0] at o5
  obtain ⟨H6, M, h6, f6, o6, m6, n6⟩ := pp_init K (runQ wk tab slow K (d + 20)) (H0 := H4) (n := n) (by omega) (vg := vg) (vr := vr) n 0 K H5 _ (by omega) (by omega) f5 o5 (by simp) (fun j hj => by omega)
  have hol : (orbsTo F n).length ≤ n := by rw [orbs_len]; exact roots_len F n
  obtain ⟨H7, M7, h7, f7, o7, p7⟩ := pp_rows K (by omega) (runQ wk tab slow K (d + 20)) hc (orbsTo F n).length 0 K H6 M (by omega) (by omega) f6 o6 (PInv.start m6 n6)
  have h8 := pp_check K (runQ wk tab slow K (d + 20)) (hc.fr f7) o7 p7 n 0 K (by omega) (by omega)
  obtain ⟨H9, h9⟩ := pp_met K (by omega) (runQ wk tab slow K (d + 20)) hw (orbsTo F n).length 0 K H7 (hc.fr f7) (by omega) (by omega)
  refine ⟨H9, ?_⟩
  show f4 slow K (runQ wk tab slow K (d + 20)) a b (u8 N) H = _
  simp only [f4]
  rw [n_convi _ .u8 N (by omega), show (SV.int .i64 30) = i64 30 from rfl, n_rem _ .i64 N (by omega), show (SV.int .i64 1) = i64 1 from rfl, n_addi _ (by omega), hn]
  have hz : ((0 : Int) != 0) = false := rfl
  simp only [h1, h2, z_call, h3, h4, z_ext0, z_ext1, z_neq, hz, z_cond, cond_false, h5]
  rw [show (SV.int .i64 0) = i64 0 from rfl, h6, h7, h8]
  exact h9
end Go.Sh.Of

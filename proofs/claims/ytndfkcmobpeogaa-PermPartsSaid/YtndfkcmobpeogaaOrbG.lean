/- Contracts of the reference's layer 18: Parted, Orbits, SameAll. -/
import Derived.Test.YtndfkcmobpeogaaOrbF
set_option linter.unusedVariables false
set_option linter.unusedSimpArgs false
namespace Go.Sh.Of
open Go

theorem rp_in (K : Nat) (C : CallC) {H0 : Heap} {gens : List (List Int)} {n : Nat} (hn : n ≤ 64) {v vg w : SV} {ws : List SV} {l : List Int} {g : Nat} (hvr : ∀ r, inRow v r → H0.size ≤ r) (hvg : Arr H0 vg ws) (hwg : ws[g]? = some w) (hw : Arr H0 w (intsL .i64 l)) (hl : l ∈ gens) (hln : l.length = n) (hlm : ∀ x ∈ l, 0 ≤ x ∧ x < n) (hg : g < 1000) (k26 : SV → SV → SV → SV → SV → Heap → Rs) : ∀ (m i fuel : Nat) (H : Heap) (L : List Nat) (b : Bool), i + m = n → m < fuel → Frame H0 H → Own H0.size H v (natsL L) → LInv (Epair gens) n L →
    ∃ H' L' b', slow.loop6 (f14_l9 slow K C k26) fuel (i64 n) vg v (.bool b) (i64 g) (i64 i) H = k26 (i64 n) vg v (.bool b') (i64 (g + 1)) H' ∧ Frame H0 H' ∧ Own H0.size H' v (natsL L') ∧ LInv (Epair gens) n L' ∧ L'.sum ≤ L.sum ∧ (b' = false → b = false ∧ L' = L ∧ ∀ j k : Nat, i ≤ j → l[j]? = some (k : Int) → fnL L j = fnL L k) ∧ (b' = true → b = true ∨ L'.sum < L.sum)
  | 0, i, fuel, H, L, b, him, hf, hfr, ho, hL => by
    obtain ⟨fuel, rfl⟩ : ∃ m, fuel = m + 1 := ⟨fuel - 1, by omega⟩
    have hi : ¬ i < n := by omega
    refine ⟨H, L, b, ?_, hfr, ho, hL, Nat.le_refl _, fun h => ⟨h, rfl, fun j k hj hk => ?_⟩, fun h => .inl h⟩
    · rw [z_loop6]
      simp only [f14_l9, n_lss, decide_eq_false hi, z_cond, cond_false]
      rw [show (SV.int .i64 1) = i64 1 from rfl, n_addi _ (by omega)]
    · have := (List.getElem?_eq_some_iff.1 hk).1; omega
  | m + 1, i, fuel, H, L, b, him, hf, hfr, ho, hL => by
    obtain ⟨fuel, rfl⟩ : ∃ m, fuel = m + 1 := ⟨fuel - 1, by omega⟩
    have hi : i < n := by omega
    obtain ⟨z, hz⟩ : ∃ z, l[i]? = some z := ⟨_, List.getElem?_eq_getElem (by omega)⟩
    obtain ⟨z0, z1⟩ := hlm z (List.mem_of_getElem? hz)
    obtain ⟨k, rfl⟩ : ∃ k : Nat, z = k := ⟨z.toNat, by omega⟩
    have hkn : k < n := by omega
    obtain ⟨x, hx⟩ : ∃ x, L[i]? = some x := ⟨_, List.getElem?_eq_getElem (by rw [hL.len]; exact hi)⟩
    obtain ⟨y, hy⟩ : ∃ y, L[k]? = some y := ⟨_, List.getElem?_eq_getElem (by rw [hL.len]; exact hkn)⟩
    have hL1 := hL.step (i := i) (k := k) ⟨l, hl, hz⟩ hx hy
    obtain ⟨sum1, sum2⟩ := stepL_sum hx hy
    obtain ⟨H1, st1, ho1, f1, sz1, hro1⟩ := ho.store (i := i) (by rw [natsL_len, hL.len]; exact hi) (x := i64 (min x y)) rfl .i64
    rw [natsL_set] at ho1
    obtain ⟨H2, st2, ho2, f2, sz2, hro2⟩ := ho1.store (i := k) (by rw [natsL_len, List.length_set, hL.len]; exact hkn) (x := i64 (min x y)) rfl .i64
    rw [natsL_set] at ho2
    have on2 : Only v H H2 := Only.trans ⟨sz1, hro1⟩ ⟨sz2, hro2⟩
    have hfr2 := on2.frame hfr hvr
    have hj : ∀ c : Bool, f14_j11 slow K C (slow.loop6 (f14_l9 slow K C k26) fuel) (i64 n) vg v (.bool c) (i64 g) (i64 i) (i64 k) (i64 (min x y)) H = slow.loop6 (f14_l9 slow K C k26) fuel (i64 n) vg v (.bool c) (i64 g) (i64 (i + 1)) H2 := fun c => by
      simp only [f14_j11, st1, st2]
      rw [show (SV.int .i64 1) = i64 1 from rfl, n_addi _ (by omega)]
    have hdec : (decide (x ≠ min x y) || decide (y ≠ min x y)) = decide (x ≠ y) := by
      by_cases hxy : x = y
      · subst hxy; simp
      · by_cases hlt : x ≤ y
        · rw [Nat.min_eq_left hlt]; simp [hxy]; omega
        · rw [Nat.min_eq_right (by omega)]; simp [hxy]
    have hstep : slow.loop6 (f14_l9 slow K C k26) (fuel + 1) (i64 n) vg v (.bool b) (i64 g) (i64 i) H = slow.loop6 (f14_l9 slow K C k26) fuel (i64 n) vg v (.bool (b || decide (x ≠ y))) (i64 g) (i64 (i + 1)) H2 := by
      rw [z_loop6]
      simp only [f14_l9, n_lss, decide_eq_true hi, z_cond, cond_true, (hvg.fr hfr).load hwg, (hw.fr hfr).load (ints_get hz), ho.arr.load (natsL_get hx), ho.arr.load (natsL_get hy)]
      rw [z_mini]
      simp only [z_guard, n_neq]
      cases b with
      | true => rw [cond_true, hj, Bool.true_or]
      | false =>
        rw [cond_false, Bool.false_or, ← hdec]
        cases hd : decide (x ≠ min x y) with
        | true => rw [cond_true, hj, Bool.true_or]
        | false => rw [cond_false, hj, Bool.false_or]
    obtain ⟨H3, L3, b3, h3, f3, o3, i3, s3, t3, u3⟩ := rp_in K C hn hvr hvg hwg hw hl hln hlm hg k26 m (i + 1) fuel H2 _ (b || decide (x ≠ y)) (by omega) (by omega) hfr2 ho2 hL1
    refine ⟨H3, L3, b3, hstep.trans h3, f3, o3, i3, Nat.le_trans s3 sum1, fun hb => ?_, fun hb => ?_⟩
    · obtain ⟨e1, e2, e3⟩ := t3 hb
      rw [Bool.or_eq_false_iff, decide_eq_false_iff_not, Decidable.not_not] at e1
      obtain ⟨e4, e5⟩ := e1
      subst e5
      have e6 : (L.set i (min x x)).set k (min x x) = L := stepL_same hx hy
      rw [e6] at e2 e3
      refine ⟨e4, e2, fun j k' hij hk' => ?_⟩
      by_cases hji : j = i
      · subst hji
        rw [hz] at hk'
        have hkk : k = k' := by have := Option.some.inj hk'; omega
        subst hkk
        rw [fnL_get hx, fnL_get hy]
      · exact e3 j k' (by omega) hk'
    · rcases u3 hb with e | e
      · rw [Bool.or_eq_true, decide_eq_true_eq] at e
        rcases e with e | e
        · exact .inl e
        · exact .inr (Nat.lt_of_le_of_lt s3 (sum2 e))
      · exact .inr (Nat.lt_of_lt_of_le e sum1)
theorem rp_round (K : Nat) (hK : 1000 < K) (C : CallC) {H0 : Heap} {gens : List (List Int)} {n : Nat} (hn : n ≤ 64) (hgl : gens.length ≤ 16) {v vg : SV} {ws : List SV} (hvr : ∀ r, inRow v r → H0.size ≤ r) (hvg : Arr H0 vg ws) (hwl : ws.length = gens.length) (hws : ∀ (g : Nat) w l, ws[g]? = some w → gens[g]? = some l → Arr H0 w (intsL .i64 l)) (hln : ∀ l ∈ gens, l.length = n) (hlm : ∀ l ∈ gens, ∀ x ∈ l, 0 ≤ x ∧ x < n) (k19 : SV → SV → SV → SV → Heap → Rs) : ∀ (m g fuel : Nat) (H : Heap) (L : List Nat) (b : Bool), g + m = gens.length → m < fuel → Frame H0 H → Own H0.size H v (natsL L) → LInv (Epair gens) n L →
    ∃ H' L' b', slow.loop5 (f14_l7 slow K C k19) fuel (i64 n) vg v (.bool b) (i64 g) H = k19 (i64 n) vg v (.bool b') H' ∧ Frame H0 H' ∧ Own H0.size H' v (natsL L') ∧ LInv (Epair gens) n L' ∧ L'.sum ≤ L.sum ∧ (b' = false → b = false ∧ L' = L ∧ ∀ (q : Nat) l, g ≤ q → gens[q]? = some l → ∀ j k : Nat, l[j]? = some (k : Int) → fnL L j = fnL L k) ∧ (b' = true → b = true ∨ L'.sum < L.sum)
  | 0, g, fuel, H, L, b, hgm, hf, hfr, ho, hL => by
    obtain ⟨fuel, rfl⟩ : ∃ m, fuel = m + 1 := ⟨fuel - 1, by omega⟩
    have hg : ¬ g < gens.length := by omega
    have hvl : ∀ k, slow.len vg k = k (i64 gens.length) := fun k => by rw [hvg.len, hwl]
    refine ⟨H, L, b, ?_, hfr, ho, hL, Nat.le_refl _, fun h => ⟨h, rfl, fun q l hq hl => ?_⟩, fun h => .inl h⟩
    · rw [z_loop5]
      simp only [f14_l7, hvl, n_lss, decide_eq_false hg, z_cond, cond_false]
    · have := (List.getElem?_eq_some_iff.1 hl).1; omega
  | m + 1, g, fuel, H, L, b, hgm, hf, hfr, ho, hL => by
    obtain ⟨fuel, rfl⟩ : ∃ m, fuel = m + 1 := ⟨fuel - 1, by omega⟩
    have hg : g < gens.length := by omega
    have hvl : ∀ k, slow.len vg k = k (i64 gens.length) := fun k => by rw [hvg.len, hwl]
    obtain ⟨l, hl⟩ : ∃ l, gens[g]? = some l := ⟨_, List.getElem?_eq_getElem hg⟩
    obtain ⟨w, hw⟩ : ∃ w, ws[g]? = some w := ⟨_, List.getElem?_eq_getElem (by omega)⟩
    have hm := List.mem_of_getElem? hl
    obtain ⟨H1, L1, b1, h1, f1, o1, i1, s1, t1, u1⟩ := rp_in K C hn hvr hvg hw (hws g w l hw hl) hm (hln l hm) (hlm l hm) (by omega) (slow.loop5 (f14_l7 slow K C k19) fuel) n 0 K H L b (by omega) (by omega) hfr ho hL
    obtain ⟨H2, L2, b2, h2, f2, o2, i2, s2, t2, u2⟩ := rp_round K hK C hn hgl hvr hvg hwl hws hln hlm k19 m (g + 1) fuel H1 L1 b1 (by omega) (by omega) f1 o1 i1
    refine ⟨H2, L2, b2, ?_, f2, o2, i2, Nat.le_trans s2 s1, fun hb => ?_, fun hb => ?_⟩
    · rw [z_loop5]
      simp only [f14_l7, hvl, n_lss, decide_eq_true hg, z_cond, cond_true]
      rw [show (SV.int .i64 0) = i64 0 from rfl, h1]
      exact h2
    · obtain ⟨e1, e2, e3⟩ := t2 hb
      obtain ⟨e4, e5, e6⟩ := t1 e1
      subst e5
      refine ⟨e4, e2, fun q l' hq hl' j k hk => ?_⟩
      by_cases hqg : q = g
      · subst hqg
        rw [hl] at hl'
        cases hl'
        exact e6 j k (Nat.zero_le j) hk
      · exact e3 q l' (by omega) hl' j k hk
    · rcases u2 hb with e | e
      · rcases u1 e with e | e
        · exact .inl e
        · exact .inr (Nat.lt_of_le_of_lt s2 e)
      · exact .inr (Nat.lt_of_lt_of_le e s1)
theorem rp_while (K : Nat) (hK : 100000 < K) (C : CallC) {H0 : Heap} {gens : List (List Int)} {n : Nat} (hn : n ≤ 64) (hgl : gens.length ≤ 16) {v vg : SV} {ws : List SV} (hvr : ∀ r, inRow v r → H0.size ≤ r) (hvg : Arr H0 vg ws) (hwl : ws.length = gens.length) (hws : ∀ (g : Nat) w l, ws[g]? = some w → gens[g]? = some l → Arr H0 w (intsL .i64 l)) (hln : ∀ l ∈ gens, l.length = n) (hlm : ∀ l ∈ gens, ∀ x ∈ l, 0 ≤ x ∧ x < n) : ∀ (s fuel : Nat) (H : Heap) (L : List Nat), L.sum ≤ s → s + 2 ≤ fuel → Frame H0 H → Own H0.size H v (natsL L) → LInv (Epair gens) n L →
    ∃ H' L', slow.loop4 (f14_l5 slow K C) fuel (i64 n) vg v (.bool true) H = slow.loop4 (f14_l18 slow K C) K (i64 n) v (.slice nilSl) (i64 0) H' ∧ Frame H0 H' ∧ Own H0.size H' v (natsL L') ∧ LInv (Epair gens) n L' ∧ ∀ i k, Epair gens i k → fnL L' i = fnL L' k := by
  intro s
  induction s with
  | zero =>
    intro fuel H L hs hf hfr ho hL
    obtain ⟨fuel, rfl⟩ : ∃ m, fuel = m + 2 := ⟨fuel - 2, by omega⟩
    obtain ⟨H1, L1, b1, h1, f1, o1, i1, s1, t1, u1⟩ := rp_round K (by omega) C hn hgl hvr hvg hwl hws hln hlm (slow.loop4 (f14_l5 slow K C) (fuel + 1)) gens.length 0 K H L false (by omega) (by omega) hfr ho hL
    cases hb : b1 with
    | true =>
      rcases u1 hb with e | e
      · cases e
      · omega
    | false =>
      obtain ⟨_, e2, e3⟩ := t1 hb
      subst e2
      refine ⟨H1, L1, ?_, f1, o1, i1, fun i k ⟨l, hl, hk⟩ => ?_⟩
      · rw [z_loop4]
        simp only [f14_l5, z_cond, cond_true]
        rw [show (SV.int .i64 0) = i64 0 from rfl, h1, hb, z_loop4]
        simp only [f14_l5, z_cond, cond_false]
        rfl
      · obtain ⟨q, hq⟩ := List.getElem?_of_mem hl
        exact e3 q l (Nat.zero_le q) hq i k hk
  | succ s ih =>
    intro fuel H L hs hf hfr ho hL
    obtain ⟨fuel, rfl⟩ : ∃ m, fuel = m + 2 := ⟨fuel - 2, by omega⟩
    obtain ⟨H1, L1, b1, h1, f1, o1, i1, s1, t1, u1⟩ := rp_round K (by omega) C hn hgl hvr hvg hwl hws hln hlm (slow.loop4 (f14_l5 slow K C) (fuel + 1)) gens.length 0 K H L false (by omega) (by omega) hfr ho hL
    cases hb : b1 with
    | true =>
      rcases u1 hb with e | e
      · cases e
      · obtain ⟨H2, L2, h2, rest⟩ := ih (fuel + 1) H1 L1 (by omega) (by omega) f1 o1 i1
        refine ⟨H2, L2, ?_, rest⟩
        rw [z_loop4]
        simp only [f14_l5, z_cond, cond_true]
        rw [show (SV.int .i64 0) = i64 0 from rfl, h1, hb]
        exact h2
    | false =>
      obtain ⟨_, e2, e3⟩ := t1 hb
      subst e2
      refine ⟨H1, L1, ?_, f1, o1, i1, fun i k ⟨l, hl, hk⟩ => ?_⟩
      · rw [z_loop4]
        simp only [f14_l5, z_cond, cond_true]
        rw [show (SV.int .i64 0) = i64 0 from rfl, h1, hb, z_loop4]
        simp only [f14_l5, z_cond, cond_false]
        rfl
      · obtain ⟨q, hq⟩ := List.getElem?_of_mem hl
        exact e3 q l (Nat.zero_le q) hq i k hk
/-! ### What is told -/
theorem rp_row (K : Nat) (C : CallC) {H0 Hi : Heap} {n : Nat} (hn : n ≤ 64) {v out : SV} {L : List Nat} (hv : Own H0.size Hi v (natsL L)) (hLl : L.length = n) {lst : List (List Nat)} (hvlt : ∀ r, inRow v r → r < Hi.size) {lo : Nat} (hlo : lo ≤ Hi.size) (hvlo : ∀ r, inRow v r → r < lo) (hout : OutOk lo Hi out lst) (hll : lst.length ≤ 64) {i : Nat} (hi : i < 64) (k66 : SV → SV → SV → SV → Heap → Rs) : ∀ (m k fuel : Nat) (H : Heap) (t : SV), k + m = n → m < fuel → Frame Hi H → Own Hi.size H t (natsL (cls (fnL L) k i)) →
    ∃ out' H', slow.loop6 (f14_l22 slow K C k66) fuel (i64 n) v out (i64 i) t (i64 k) H = k66 (i64 n) v out' (i64 (i + 1)) H' ∧ Fr lo Hi H' ∧ OutOk lo H' out' (lst ++ [cls (fnL L) n i])
  | 0, k, fuel, H, t, hkm, hf, hfr, ht => by
    obtain ⟨fuel, rfl⟩ : ∃ m, fuel = m + 1 := ⟨fuel - 1, by omega⟩
    have hk : k = n := by omega
    subst hk
    obtain ⟨ws, w1, w2, w3⟩ := hout
    have w1' := w1.fr hfr
    have w3' : ∀ (q : Nat) w l, ws[q]? = some w → lst[q]? = some l → Own lo H w (natsL l) := fun q w l hw hl => (w3 q w l hw hl).fr hfr
    obtain ⟨out', H2, hp, ho2, f2, ro2, ge2⟩ := pushO w1' (Nat.le_trans hlo hfr.size) (.slice nilSl) (x := t) ht.arr.flat (by_ := 24) (roomy_small (by omega))
    refine ⟨out', H2, ?_, (hfr.mono hlo).trans f2, ws ++ [t], ho2, by simp [w2], fun q w l hw hl => ?_⟩
    · rw [z_loop6]
      have hlt : ¬ k < k := Nat.lt_irrefl k
      simp only [f14_l22, n_lss, decide_eq_false hlt, z_cond, cond_false, hp, f14_j20]
      rw [show (SV.int .i64 1) = i64 1 from rfl, n_addi _ (by omega)]
    · by_cases hq : q < ws.length
      · rw [List.getElem?_append_left hq] at hw
        rw [List.getElem?_append_left (by omega)] at hl
        have hb := w3' q w l hw hl
        exact Own.ofr hb fun r hr => ro2 r (out_kind w1' w2 w3' hw hl hr) (own_lt hb hr).2.1
      · have hq2 : q = ws.length := by have := (List.getElem?_eq_some_iff.1 hw).1; simp at this; omega
        subst hq2
        simp at hw
        subst hw
        rw [w2] at hl
        simp at hl
        subst hl
        refine (Own.ofr ht fun r hr => ro2 r (fun h => ?_) (own_lt ht hr).2.1).mono hlo
        have h1 := (own_lt ht hr).1
        have h2 := (own_lt w1 h).2.1
        omega
  | m + 1, k, fuel, H, t, hkm, hf, hfr, ht => by
    obtain ⟨fuel, rfl⟩ : ∃ m, fuel = m + 1 := ⟨fuel - 1, by omega⟩
    have hk : k < n := by omega
    obtain ⟨x, hx⟩ : ∃ x, L[k]? = some x := ⟨_, List.getElem?_eq_getElem (by omega)⟩
    have hvH := hv.fr hfr
    have hfx := fnL_get hx
    rw [z_loop6]
    simp only [f14_l22, n_lss, decide_eq_true hk, z_cond, cond_true, hvH.arr.load (natsL_get hx), n_eql]
    have hs := cls_succ (fnL L) k i
    rw [hfx] at hs
    by_cases hxi : x = i
    · rw [if_pos hxi] at hs
      have hcl := cls_len (fnL L) k i
      obtain ⟨t', H2, hp, ht2, f2, _⟩ := pushO ht hfr.size (.int .i64 0) (x := i64 k) rfl (by_ := 8) (roomy_small (by rw [natsL_len]; omega))
      have e1 : natsL (cls (fnL L) k i) ++ [i64 k] = natsL (cls (fnL L) (k + 1) i) := by rw [hs]; simp [natsL]
      rw [e1] at ht2
      rw [decide_eq_true hxi]
      simp only [cond_true, hp, f14_j24]
      rw [show (SV.int .i64 1) = i64 1 from rfl, n_addi _ (by omega)]
      exact rp_row K C hn hv hLl hvlt hlo hvlo hout hll hi k66 m (k + 1) fuel H2 t' (by omega) (by omega) (Fr.trans hfr f2) ht2
    · rw [if_neg hxi, List.append_nil] at hs
      rw [decide_eq_false hxi]
      simp only [cond_false, f14_j24]
      rw [show (SV.int .i64 1) = i64 1 from rfl, n_addi _ (by omega)]
      rw [← hs] at ht
      exact rp_row K C hn hv hLl hvlt hlo hvlo hout hll hi k66 m (k + 1) fuel H t (by omega) (by omega) hfr ht
theorem rp_out (K : Nat) (hK : 1000 < K) (C : CallC) {H0 Hs : Heap} {n : Nat} (hn : n ≤ 64) {v : SV} {L : List Nat} (hv : Own H0.size Hs v (natsL L)) (hLl : L.length = n) : ∀ (m i fuel : Nat) (H : Heap) (out : SV), i + m = n → m < fuel → Frame Hs H → OutOk Hs.size H out ((roots (fnL L) i).map (cls (fnL L) n)) →
    ∃ r H', slow.loop4 (f14_l18 slow K C) fuel (i64 n) v out (i64 i) H = some (r, H') ∧ Frame Hs H' ∧ IsPts H' r (orbsTo (fnL L) n)
  | 0, i, fuel, H, out, him, hf, hfr, ⟨ws, w1, w2, w3⟩ => by
    obtain ⟨fuel, rfl⟩ : ∃ m, fuel = m + 1 := ⟨fuel - 1, by omega⟩
    have hi : i = n := by omega
    subst hi
    refine ⟨out, H, ?_, hfr, ws, w1.arr, w2, fun q w l hw hl => (w3 q w l hw hl).arr⟩
    rw [z_loop4]
    have hlt : ¬ i < i := Nat.lt_irrefl i
    simp only [f14_l18, n_lss, decide_eq_false hlt, z_cond, cond_false, z_rest w1.arr.good]
  | m + 1, i, fuel, H, out, him, hf, hfr, hout => by
    obtain ⟨fuel, rfl⟩ : ∃ m, fuel = m + 1 := ⟨fuel - 1, by omega⟩
    have hi : i < n := by omega
    obtain ⟨x, hx⟩ : ∃ x, L[i]? = some x := ⟨_, List.getElem?_eq_getElem (by omega)⟩
    have hvH := hv.fr hfr
    have hfx := fnL_get hx
    have hs := roots_succ (fnL L) i
    rw [hfx] at hs
    have hrl := roots_len (fnL L) i
    rw [z_loop4]
    simp only [f14_l18, n_lss, decide_eq_true hi, z_cond, cond_true, hvH.arr.load (natsL_get hx), n_neq]
    by_cases hxi : x = i
    · have hne : ¬ x ≠ i := fun h => h hxi
      rw [if_pos hxi] at hs
      rw [decide_eq_false hne, cond_false, show (SV.int .i64 0) = i64 0 from rfl]
      obtain ⟨out', H2, h2, f2, o2⟩ := rp_row K C (i := i) (Hi := H) hn hvH hLl (fun r hr => (own_lt hvH hr).2.1) hfr.size (fun r hr => (own_lt hv hr).2.1) hout (by simp; omega) (by omega) (slow.loop4 (f14_l18 slow K C) fuel) n 0 K H (.slice nilSl) (by omega) (by omega) (Fr.refl _ _) (by simpa [cls] using Own.nil H.size H)
      have e1 : (roots (fnL L) i).map (cls (fnL L) n) ++ [cls (fnL L) n i] = (roots (fnL L) (i + 1)).map (cls (fnL L) n) := by rw [hs]; simp
      rw [e1] at o2
      rw [h2]
      exact rp_out K hK C hn hv hLl m (i + 1) fuel H2 out' (by omega) (by omega) (Fr.trans hfr f2) o2
    · rw [if_neg hxi, List.append_nil] at hs
      rw [decide_eq_true hxi, cond_true]
      simp only [f14_j20]
      rw [show (SV.int .i64 1) = i64 1 from rfl, n_addi _ (by omega)]
      rw [← hs] at hout
      exact rp_out K hK C hn hv hLl m (i + 1) fuel H out (by omega) (by omega) hfr hout
theorem rp_init (K : Nat) (hK : 100000 < K) (C : CallC) {H0 : Heap} {n : Nat} (hn : n ≤ 64) {v vg : SV} (hvr : ∀ r, inRow v r → H0.size ≤ r) : ∀ (m i fuel : Nat) (H : Heap), i + m = n → m < fuel → Frame H0 H → Own H0.size H v (natsL (upTo n i)) →
    ∃ H', slow.loop4 (f14_l1 slow K C) fuel (i64 n) vg v (i64 i) H = slow.loop4 (f14_l5 slow K C) K (i64 n) vg v (.bool true) H' ∧ Frame H0 H' ∧ Own H0.size H' v (natsL (List.range n))
  | 0, i, fuel, H, him, hf, hfr, ho => by
    obtain ⟨fuel, rfl⟩ : ∃ m, fuel = m + 1 := ⟨fuel - 1, by omega⟩
    have hi : i = n := by omega
    subst hi
    rw [upTo_all] at ho
    refine ⟨H, ?_, hfr, ho⟩
    rw [z_loop4]
    have hlt : ¬ i < i := Nat.lt_irrefl i
    simp only [f14_l1, n_lss, decide_eq_false hlt, z_cond, cond_false]
  | m + 1, i, fuel, H, him, hf, hfr, ho => by
    obtain ⟨fuel, rfl⟩ : ∃ m, fuel = m + 1 := ⟨fuel - 1, by omega⟩
    have hi : i < n := by omega
    obtain ⟨H1, st, ho1, f1, sz1, hro⟩ := ho.store (i := i) (by rw [natsL_len, upTo_len (by omega)]; exact hi) (x := i64 i) rfl .i64
    rw [natsL_set, upTo_set hi] at ho1
    have on1 : Only v H H1 := ⟨sz1, hro⟩
    obtain ⟨H2, h2, f2, ho2⟩ := rp_init K hK C hn hvr m (i + 1) fuel H1 (by omega) (by omega) (on1.frame hfr hvr) ho1
    refine ⟨H2, ?_, f2, ho2⟩
    rw [z_loop4]
    simp only [f14_l1, n_lss, decide_eq_true hi, z_cond, cond_true, st]
    rw [show (SV.int .i64 1) = i64 1 from rfl, n_addi _ (by omega)]
    exact h2
theorem LInv.start (E : Nat → Nat → Prop) (n : Nat) : LInv E n (List.range n) := by
  refine ⟨by simp, fun i x hx => ?_, fun i x hx => ?_⟩
  · have hi : i < n := by have := (List.getElem?_eq_some_iff.1 hx).1; simpa using this
    simp [hi] at hx
    omega
  · have hi : i < n := by have := (List.getElem?_eq_some_iff.1 hx).1; simpa using this
    simp [hi] at hx
    subst hx
    exact Conn.refl _
theorem parted_ok (K : Nat) (hK : 100000 < K) (d : Nat) (H : Heap) {n : Nat} (hn : n ≤ 64) {gens : List (List Int)} (hgl : gens.length ≤ 16) {vg : SV} {ws : List SV} (hvg : Arr H vg ws) (hwl : ws.length = gens.length) (hws : ∀ (g : Nat) w l, ws[g]? = some w → gens[g]? = some l → Arr H w (intsL .i64 l)) (hok : ∀ l ∈ gens, ckE l = 0 ∧ (l.length : Int) = n) :
    ∃ r H' F, runQ wk tab slow K (d + 1) 14 [i64 n, vg] H = some (r, H') ∧ Frame H H' ∧ IsLeast gens F ∧ IsPts H' r (orbsTo F n) := by
  obtain ⟨v, H1, h1, o1, f1, in1, sz1⟩ := z_make (H := H) (lo := H.size) (Nat.le_refl _) 8 (.int .i64 0) n (by omega) (roomy_small (by omega)) .i64 .i64
  have e0 : List.replicate n (SV.int .i64 0) = natsL (upTo n 0) := by simp [natsL, upTo]
  rw [e0] at o1
  have hvr : ∀ r, inRow v r → H.size ≤ r := fun r hr => (own_lt o1 hr).1
  obtain ⟨H2, h2, f2, o2⟩ := rp_init K hK (runQ wk tab slow K d) (vg := vg) hn hvr n 0 K H1 (by omega) (by omega) f1 o1
  have hlm : ∀ l ∈ gens, ∀ x ∈ l, 0 ≤ x ∧ x < (n : Int) := fun l hl x hx => by
    have h2 := ck_mem (hok l hl).1 x hx
    have h3 := (hok l hl).2
    omega
  have hln : ∀ l ∈ gens, l.length = n := fun l hl => by have := (hok l hl).2; omega
  have hsum : (List.range n).sum ≤ 4096 := by
    have h1 := sum_le (n := 64) (L := List.range n) fun x hx => by have := List.mem_range.1 hx; omega
    rw [List.length_range] at h1
    have : n * 64 ≤ 64 * 64 := Nat.mul_le_mul_right _ hn
    omega
  obtain ⟨H3, L, h3, f3, o3, i3, c3⟩ := rp_while K hK (runQ wk tab slow K d) hn hgl hvr hvg hwl hws hln hlm 4096 K H2 (List.range n) hsum (by omega) f2 o2 (LInv.start _ n)
  obtain ⟨r, H4, h4, f4, g4⟩ := rp_out K (by omega) (runQ wk tab slow K d) hn o3 i3.len n 0 K H3 (.slice nilSl) (by omega) (by omega) (Fr.refl _ _) ⟨[], Own.nil _ _, by simp [roots], fun q w l hw => by simp at hw⟩
  obtain ⟨l1, l2⟩ := i3.fn
  refine ⟨r, H4, fnL L, ?_, Frame.trans f3 f4, ⟨l1, l2, c3⟩, g4⟩
  show f14 slow K (runQ wk tab slow K d) (i64 n) vg H = _
  simp only [f14, h1]
  rw [show (SV.int .i64 0) = i64 0 from rfl, h2, h3]
  exact h4
theorem rorb_chk (K : Nat) (hK : 100000 < K) (d : Nat) {H0 : Heap} {n : Nat} (hn : n ≤ 64) {gens : List (List Int)} (hgl : gens.length ≤ 16) {vg : SV} {ws : List SV} (hvg : Arr H0 vg ws) (hwl : ws.length = gens.length) (hws : ∀ (g : Nat) w l, ws[g]? = some w → gens[g]? = some l → Arr H0 w (intsL .i64 l)) : ∀ (rest : List (List Int)) (g fuel : Nat) (H : Heap), gens.drop g = rest → rest.length < fuel → Frame H0 H → (∀ (q : Nat) l, q < g → gens[q]? = some l → ckE l = 0 ∧ (l.length : Int) = n) →
    ∃ r H', slow.loop3 (f6_l4 slow K (runQ wk tab slow K (d + 1))) fuel (i64 n) vg (i64 g) H = some (.tuple [r, .int .i64 (genE n rest)], H') ∧ Frame H0 H' ∧ (genE n rest = 0 → ∃ F, IsLeast gens F ∧ IsPts H' r (orbsTo F n)) ∧ (genE n rest ≠ 0 → r = .slice nilSl)
  | [], g, fuel, H, hd, hf, hfr, hok => by
    obtain ⟨fuel, rfl⟩ : ∃ m, fuel = m + 1 := ⟨fuel - 1, by omega⟩
    have hg : gens.length ≤ g := by have := List.drop_eq_nil_iff.1 hd; omega
    have hvl : ∀ k, slow.len vg k = k (i64 gens.length) := fun k => by rw [hvg.len, hwl]
    have hall : ∀ l ∈ gens, ckE l = 0 ∧ (l.length : Int) = n := fun l hl => by
      obtain ⟨q, hq⟩ := List.getElem?_of_mem hl
      exact hok q l (by have := (List.getElem?_eq_some_iff.1 hq).1; omega) hq
    obtain ⟨r, H', F, h1, f1, g1, g2⟩ := parted_ok K hK d H hn hgl (hvg.fr hfr) hwl (fun g w l hw hl => (hws g w l hw hl).fr hfr) hall
    refine ⟨r, H', ?_, Frame.trans hfr f1, fun _ => ⟨F, g1, g2⟩, fun h => absurd rfl h⟩
    have hrg : r.good = true := by
      obtain ⟨ws, h, _⟩ := g2
      exact h.good
    rw [z_loop3]
    have hlt : ¬ g < gens.length := by omega
    simp only [f6_l4, hvl, n_lss, decide_eq_false hlt, z_cond, cond_false, h1, z_call, z_rest hrg]
    rfl
  | l :: rest, g, fuel, H, hd, hf, hfr, hok => by
    obtain ⟨fuel, rfl⟩ : ∃ m, fuel = m + 1 := ⟨fuel - 1, by omega⟩
    obtain ⟨hl, hd', hg, _⟩ := drop_cons hd
    have hvl : ∀ k, slow.len vg k = k (i64 gens.length) := fun k => by rw [hvg.len, hwl]
    obtain ⟨w, hw⟩ : ∃ w, ws[g]? = some w := ⟨_, List.getElem?_eq_getElem (by omega)⟩
    have ha := (hws g w l hw hl)
    obtain ⟨H1, hc, f1⟩ := rcheck_ok K (by omega) d H (ha.fr hfr)
    have hfr1 := Frame.trans hfr f1
    rw [z_loop3]
    simp only [f6_l4, hvl, n_lss, decide_eq_true hg, z_cond, cond_true, (hvg.fr hfr).load hw, hc, z_call, z_neq]
    by_cases h1 : ckE l ≠ 0
    · have e : genE n (l :: rest) = ckE l := by unfold genE; rw [if_pos h1]
      have hb : (ckE l != 0) = true := bne_iff_ne.2 h1
      rw [hb, e]
      simp only [cond_true, z_rest_int]
      exact ⟨_, H1, rfl, hfr1, (fun h => absurd h h1), fun _ => rfl⟩
    · have h1' : ckE l = 0 := Decidable.not_not.1 h1
      have hb : (ckE l != 0) = false := by rw [h1']; rfl
      rw [hb]
      simp only [cond_false, (hvg.fr hfr1).load hw, alen (ha.fr hfr1), z_neq, z_cond]
      by_cases h2 : (l.length : Int) ≠ n
      · have e : genE n (l :: rest) = 180 := by unfold genE; rw [if_neg h1, if_pos h2]
        have hb2 : ((l.length : Int) != (n : Int)) = true := bne_iff_ne.2 h2
        rw [hb2, e]
        exact ⟨_, H1, rfl, hfr1, (fun h => by cases h), fun _ => rfl⟩
      · have h2' : (l.length : Int) = n := Decidable.not_not.1 h2
        have e : genE n (l :: rest) = genE n rest := by
          conv => lhs; unfold genE
          rw [if_neg h1, if_neg h2]
        have hb2 : ((l.length : Int) != (n : Int)) = false := by rw [h2']; exact bne_self_eq_false _
        rw [hb2, e]
        simp only [cond_false]
        rw [show (SV.int .i64 1) = i64 1 from rfl, n_addi _ (by omega)]
        exact rorb_chk K hK d hn hgl hvg hwl hws rest (g + 1) fuel H1 hd' (by simp at hf; omega) hfr1 (fun q l' hq hl' => by
          by_cases hqg : q = g
          · subst hqg
            rw [hl] at hl'
            cases hl'
            exact ⟨h1', h2'⟩
          · exact hok q l' (by omega) hl')
theorem rorbits_ok (K : Nat) (hK : 100000 < K) (d : Nat) (H : Heap) (n : Int) {vg : SV} {gens : List (List Int)} (hg : IsLists H vg gens) :
    ∃ r H', runQ wk tab slow K (d + 2) 6 [.int .i64 n, vg] H = some (.tuple [r, .int .i64 (orbE n gens)], H') ∧ Frame H H' ∧ (orbE n gens = 0 → ∃ F, IsLeast gens F ∧ IsPts H' r (orbsTo F n.toNat)) ∧ (orbE n gens ≠ 0 → r = .slice nilSl) := by
  obtain ⟨ws, h1, h2, h3⟩ := hg
  show ∃ r H', f6 slow K (runQ wk tab slow K (d + 1)) (.int .i64 n) vg H = _ ∧ _
  simp only [f6, z_lss, z_cond, z_gtr, h1.len]
  by_cases a1 : n < 0
  · have e : orbE n gens = 2 := by unfold orbE; rw [if_pos a1]
    rw [decide_eq_true a1, e]
    exact ⟨_, H, rfl, Fr.refl _ _, (fun h => by cases h), fun _ => rfl⟩
  · rw [decide_eq_false a1, cond_false]
    by_cases a2 : n > 64
    · have e : orbE n gens = 3 := by unfold orbE; rw [if_neg a1, if_pos a2]
      rw [decide_eq_true a2, e]
      exact ⟨_, H, rfl, Fr.refl _ _, (fun h => by cases h), fun _ => rfl⟩
    · rw [decide_eq_false a2, cond_false]
      by_cases a3 : gens.length > 16
      · have e : orbE n gens = 9 := by unfold orbE; rw [if_neg a1, if_neg a2, if_pos a3]
        have a3' : ((ws.length : Nat) : Int) > 16 := by omega
        rw [decide_eq_true a3', e]
        exact ⟨_, H, rfl, Fr.refl _ _, (fun h => by cases h), fun _ => rfl⟩
      · have e : orbE n gens = genE n gens := by unfold orbE; rw [if_neg a1, if_neg a2, if_neg a3]
        have a3' : ¬ ((ws.length : Nat) : Int) > 16 := by omega
        rw [decide_eq_false a3', cond_false, e]
        obtain ⟨m, rfl⟩ : ∃ m : Nat, n = m := ⟨n.toNat, by omega⟩
        rw [show (SV.int .i64 0) = i64 0 from rfl]
        exact rorb_chk K hK d (by omega) (by omega) h1 h2 h3 gens 0 K H rfl (by omega) (Fr.refl _ _) (fun q l hq => by omega)
/-! ### SameAll -/
theorem natsL_ints (U : List Nat) : natsL U = intsL .i64 (U.map fun (x : Nat) => (x : Int)) := by simp [natsL, intsL]
theorem IsPts.fr {H H' : Heap} {v : SV} {L : List (List Nat)} (h : IsPts H v L) (f : Frame H H') : IsPts H' v L := by
  obtain ⟨ws, h1, h2, h3⟩ := h
  exact ⟨ws, h1.fr f, h2, fun q w l hw hl => (h3 q w l hw hl).fr f⟩
theorem sameall_loop (K : Nat) (hK : 100000 < K) (d : Nat) (H : Heap) {v w : SV} {L : List (List Nat)} (hv : IsPts H v L) (hw : IsPts H w L) (hl : L.length ≤ 1000) (hll : ∀ l ∈ L, l.length ≤ 1000) : ∀ (m i fuel : Nat), i + m = L.length → m < fuel → slow.loop3 (f7_l2 slow K (runQ wk tab slow K (d + 1))) fuel v w (i64 i) H = some (.bool true, H)
  | 0, i, fuel, him, hf => by
    obtain ⟨fuel, rfl⟩ : ∃ m, fuel = m + 1 := ⟨fuel - 1, by omega⟩
    obtain ⟨vs, v1, v2, v3⟩ := hv
    have hi : ¬ i < L.length := by omega
    have hvl : ∀ k, slow.len v k = k (i64 L.length) := fun k => by rw [v1.len, v2]
    rw [z_loop3]
    simp only [f7_l2, hvl, n_lss, decide_eq_false hi, z_cond, cond_false]
  | m + 1, i, fuel, him, hf => by
    obtain ⟨fuel, rfl⟩ : ∃ m, fuel = m + 1 := ⟨fuel - 1, by omega⟩
    have hv' := hv
    have hw' := hw
    obtain ⟨vs, v1, v2, v3⟩ := hv'
    obtain ⟨ws, w1, w2, w3⟩ := hw'
    have hi : i < L.length := by omega
    obtain ⟨l, hL⟩ : ∃ l, L[i]? = some l := ⟨_, List.getElem?_eq_getElem hi⟩
    obtain ⟨a, ha⟩ : ∃ a, vs[i]? = some a := ⟨_, List.getElem?_eq_getElem (by omega)⟩
    obtain ⟨b, hb⟩ : ∃ b, ws[i]? = some b := ⟨_, List.getElem?_eq_getElem (by omega)⟩
    have hvl : ∀ k, slow.len v k = k (i64 L.length) := fun k => by rw [v1.len, v2]
    have a1 := v3 i a l ha hL
    have b1 := w3 i b l hb hL
    rw [natsL_ints] at a1 b1
    have hlen := hll l (List.mem_of_getElem? hL)
    have hs := same_ok K d H a1 b1 (by simp; omega) (by simp; omega)
    rw [decide_eq_true rfl] at hs
    rw [z_loop3]
    simp only [f7_l2, hvl, n_lss, decide_eq_true hi, z_cond, cond_true, v1.load ha, w1.load hb, hs, z_call, z_not, Bool.not_true, cond_false]
    rw [show (SV.int .i64 1) = i64 1 from rfl, n_addi _ (by omega)]
    exact sameall_loop K hK d H hv hw hl hll m (i + 1) fuel (by omega) (by omega)
theorem sameall_ok (K : Nat) (hK : 100000 < K) (d : Nat) (H : Heap) {v w : SV} {L : List (List Nat)} (hv : IsPts H v L) (hw : IsPts H w L) (hl : L.length ≤ 1000) (hll : ∀ l ∈ L, l.length ≤ 1000) : runQ wk tab slow K (d + 2) 7 [v, w] H = some (.bool true, H) := by
  have hv' := hv
  have hw' := hw
  obtain ⟨vs, v1, v2, v3⟩ := hv'
  obtain ⟨ws, w1, w2, w3⟩ := hw'
  show f7 slow K (runQ wk tab slow K (d + 1)) v w H = _
  have hvl : ∀ k, slow.len v k = k (i64 L.length) := fun k => by rw [v1.len, v2]
  have hwl : ∀ k, slow.len w k = k (i64 L.length) := fun k => by rw [w1.len, w2]
  have hd : decide (L.length ≠ L.length) = false := decide_eq_false fun h => h rfl
  simp only [f7, hvl, hwl, n_neq, hd, z_cond, cond_false]
  rw [show (SV.int .i64 0) = i64 0 from rfl]
  exact sameall_loop K hK d H hv hw hl hll L.length 0 K (by omega) (by omega)
/-- PermOrbits, of any number and lists. -/
theorem porb_ok (K : Nat) (hK : 100000 < K) (d : Nat) (H : Heap) (n : Int) {vg : SV} {gens : List (List Int)} (hg : IsLists H vg gens) : ∃ H', runQ wk tab slow K (d + 21) 3 [.int .i64 n, vg] H = some (.bool true, H') := by
  have hw : ∀ H, runQ wk tab slow K (d + 20) 8 [] H = some (.bool true, H) := fun H => rfl
  obtain ⟨r1, H1, h1, f1, a1, b1⟩ := orbits_ok K (by omega) (d + 18) H n hg
  rw [show d + 18 + 2 = d + 20 from rfl] at h1
  obtain ⟨r2, H2, h2, f2, a2, b2⟩ := rorbits_ok K hK (d + 18) H1 n (hg.fr f1)
  rw [show d + 18 + 2 = d + 20 from rfl] at h2
  have hall : ∃ L, IsPts H2 r1 L ∧ IsPts H2 r2 L ∧ L.length ≤ 1000 ∧ ∀ l ∈ L, l.length ≤ 1000 := by
    by_cases he : orbE n gens = 0
    · obtain ⟨F, lf, pf⟩ := a1 he
      obtain ⟨G, lg, pg⟩ := a2 he
      have hFG : F = G := funext fun i => least_uniq lf.1 lf.2.1 lf.2.2 lg.1 lg.2.1 lg.2.2 i
      subst hFG
      have hn : n.toNat ≤ 64 := by
        unfold orbE at he
        by_cases c1 : n < 0
        · omega
        · by_cases c2 : n > 64
          · rw [if_neg c1, if_pos c2] at he; cases he
          · omega
      refine ⟨_, pf.fr f2, pg, ?_, fun l hl => ?_⟩
      · have := roots_len F n.toNat
        rw [orbs_len]
        omega
      · obtain ⟨q, hq⟩ := List.getElem?_of_mem hl
        obtain ⟨r, _, _, _, rfl⟩ := orbs_mem hq
        have := cls_len F n.toNat r
        omega
    · rw [b1 he, b2 he]
      exact ⟨[], ⟨[], Arr.nil _, rfl, fun q w l hw => by simp at hw⟩, ⟨[], Arr.nil _, rfl, fun q w l hw => by simp at hw⟩, by simp, fun l hl => by cases hl⟩
  obtain ⟨L, p1, p2, p3, p4⟩ := hall
  have h3 := sameall_ok K hK (d + 18) H2 p1 p2 p3 p4
  rw [show d + 18 + 2 = d + 20 from rfl] at h3
  refine ⟨H2, ?_⟩
  show f3 slow K (runQ wk tab slow K (d + 20)) (.int .i64 n) vg H = _
  simp only [f3, h1, z_call, z_ext0, z_ext1, h2, h3, z_guard, cond_true, z_eql, beq_self_eq_true, hw, f3_j1, z_rest_bool]
end Go.Sh.Of

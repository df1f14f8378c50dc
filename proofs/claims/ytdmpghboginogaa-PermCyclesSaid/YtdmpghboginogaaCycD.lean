/- Cycles make the permutation, its order and its sign: what is computed. -/
import Derived.Test.YtdmpghboginogaaCycC
import Derived.Test.YtdmpghboginogaaTxtA
set_option linter.unusedVariables false
set_option linter.unusedSimpArgs false
namespace Go.Sh.Of
open Go

theorem n_inc {a : Nat} (h : a < 1000000) (k : K1) : slow.add (i64 a) (.int .i64 1) k = k (i64 (a + 1)) := n_addi k (b := 1) (by omega)
theorem digits_loop (C : CallC) (K : Nat) : ∀ (n fuel : Nat) (H : Heap) (s : List UInt8), n < fuel → s.length + n < 1000000 →
    ∃ H', slow.loop2 (f15_l1 slow K C) fuel (i64 n) (.str s) H = some (.str ((decLE n).reverse.map chr ++ s), H') ∧ Frame H H' := by
  intro n
  induction n using Nat.strongRecOn with
  | ind n ih =>
    intro fuel H s hf hs
    obtain ⟨fuel, rfl⟩ : ∃ m, fuel = m + 1 := ⟨fuel - 1, by omega⟩
    rw [z_loop2]
    by_cases h0 : n = 0
    · subst h0
      have e1 : ∀ k, slow.gtr (i64 0) (.int .i64 0) k = k (.bool false) := fun k => by rw [z_gtr]; rfl
      refine ⟨H, ?_, Fr.refl _ _⟩
      simp only [f15_l1, e1, z_cond, cond_false, z_rest_str, decLE_zero]
      rfl
    · have e1 : ∀ k, slow.gtr (i64 n) (.int .i64 0) k = k (.bool true) := fun k => by rw [show (SV.int .i64 0) = i64 0 from rfl, n_gtr, decide_eq_true (by omega)]
      have hd : n % 10 < 10 := Nat.mod_lt _ (by decide)
      have e2 : ∀ k, slow.rem (i64 n) (.int .i64 10) k = k (i64 (n % 10)) := fun k => n_rem k .i64 n (b := 10) (by decide)
      have e3 : ∀ k, slow.add (.int .i64 48) (i64 (n % 10)) k = k (i64 (48 + n % 10)) := fun k => n_addi k (a := 48) (by omega)
      have e4 : ∀ k, slow.conv .u8 (i64 (48 + n % 10)) k = k (u8 (48 + n % 10)) := fun k => by rw [n_conv8, Nat.mod_eq_of_lt (by omega)]
      have e5 : ∀ k, slow.quo (i64 n) (.int .i64 10) k = k (i64 (n / 10)) := fun k => n_quoi k n (b := 10) (by decide) (by omega)
      obtain ⟨v, H1, h1, o1, g1, _, _⟩ := z_lay1 (H := H) (lo := H.size) (Nat.le_refl _) (.int .u8 0) (x := u8 (48 + n % 10)) rfl
      have hlt : n / 10 < n := Nat.div_lt_self (by omega) (by decide)
      obtain ⟨H2, h2, g2⟩ := ih (n / 10) hlt fuel H1 (chr (n % 10) :: s) (by omega) (by simp only [List.length_cons]; omega)
      refine ⟨H2, ?_, Frame.trans g1 g2⟩
      simp only [f15_l1, e1, z_cond, cond_true, e2, e3, e4, h1, z_str1 o1.arr hd]
      rw [z_sadd _ (by simp only [List.length_singleton]; omega), e5]
      rw [decLE_pos h0, List.reverse_cons, List.map_append, List.append_assoc]
      exact h2
theorem digits_ok (K : Nat) (hK : 1000000 < K) (d : Nat) (H : Heap) {n : Nat} (hn : 0 < n) (hl : n < 100000) :
    ∃ H', runQ wk tab slow K (d + 1) 15 [i64 n] H = some (.str (dec n), H') ∧ Frame H H' := by
  obtain ⟨H1, h1, g1⟩ := digits_loop (runQ wk tab slow K d) K n K H [] (by omega) (by simp only [List.length_nil]; omega)
  refine ⟨H1, ?_, g1⟩
  have e : dec n = (decLE n).reverse.map chr ++ [] := by
    unfold dec
    rw [if_neg (by omega), List.append_nil]
  rw [e]
  exact h1
theorem still_no (C : CallC) (K : Nat) (H : Heap) {v : SV} {l : List Int} (hv : Arr H v (intsL .i64 l)) (hl : l.length < 1000000) : ∀ (m i fuel : Nat), i + m = l.length → m < fuel → (∃ j, i ≤ j ∧ j < l.length ∧ l[j]? ≠ some (j : Int)) →
    slow.loop2 (f11_l1 slow K C) fuel v (i64 i) H = some (.bool false, H)
  | 0, i, fuel, hd, hf, ⟨j, a, b, c⟩ => by omega
  | m + 1, i, fuel, hd, hf, ⟨j, a, b, c⟩ => by
    obtain ⟨fuel, rfl⟩ : ∃ m, fuel = m + 1 := ⟨fuel - 1, by omega⟩
    have hi : i < l.length := by omega
    obtain ⟨x, hx⟩ : ∃ x, l[i]? = some x := ⟨_, List.getElem?_eq_getElem hi⟩
    rw [z_loop2]
    simp only [f11_l1, alen hv, n_lss, decide_eq_true hi, z_cond, cond_true, hv.load (ints_get hx), z_neq]
    by_cases e : x = (i : Int)
    · have hb : (x != (i : Int)) = false := by simp [e]
      have hij : j ≠ i := fun h => by
        subst h
        exact c (by rw [hx, e])
      rw [hb, cond_false, n_inc (by omega)]
      exact still_no C K H hv hl m (i + 1) fuel (by omega) (by omega) ⟨j, by omega, b, c⟩
    · have hb : (x != (i : Int)) = true := by simp [e]
      rw [hb, cond_true]
theorem times_loop (K : Nat) (hK : 1000000 < K) (d : Nat) {H0 : Heap} {v : SV} {p : List Int} {n T : Nat} {f : Nat → Nat} (P : IsP p n f) (hv : Arr H0 v (intsL .i64 p)) (hT : ∀ t, (∀ x, x < n → it f t x = x) ↔ T ∣ t) (hT1 : T < 10000) : ∀ (m t fuel : Nat) (H : Heap) (x : SV) (l : List Int), t + m = T → 1 ≤ t → m < fuel → Frame H0 H → Arr H x (intsL .i64 l) → IsP l n (it f t) →
    ∃ H', slow.loop5 (f4_l20 slow K (runQ wk tab slow K (d + 20))) fuel (i64 n) v (.str (dec T)) (i64 t) x H = some (.bool true, H')
  | 0, t, fuel, H, x, l, htm, ht, hf, hfr, hx, L => by
    obtain ⟨fuel, rfl⟩ : ∃ m, fuel = m + 1 := ⟨fuel - 1, by omega⟩
    have e : t = T := by omega
    subst e
    have hfix := (hT t).2 (Nat.dvd_refl t)
    have hll := L.len
    have hn64 := L.le
    have s1 := still_ok K (d + 19) H hx (by omega) (by omega) (fun i hi => by
      rw [L.fn.2 i (by omega), hfix i (by omega)])
    rw [show d + 19 + 1 = d + 20 from rfl] at s1
    obtain ⟨H1, h1, g1⟩ := digits_ok K hK (d + 19) H (n := t) (by omega) (by omega)
    rw [show d + 19 + 1 = d + 20 from rfl] at h1
    have hw : ∀ H, runQ wk tab slow K (d + 20) 12 [] H = some (.bool true, H) := fun H => rfl
    refine ⟨H1, ?_⟩
    rw [z_loop5]
    simp only [f4_l20, s1, z_call, z_not, Bool.not_true, z_cond, cond_false, h1, z_seql, beq_self_eq_true, z_guard, cond_true, hw, f4_j26, z_rest_bool]
  | m + 1, t, fuel, H, x, l, htm, ht, hf, hfr, hx, L => by
    obtain ⟨fuel, rfl⟩ : ∃ m, fuel = m + 1 := ⟨fuel - 1, by omega⟩
    have hll := L.len
    have hn64 := L.le
    have hno : ¬ T ∣ t := fun h => by
      have := Nat.le_of_dvd (by omega) h
      omega
    have hex : ∃ j, 0 ≤ j ∧ j < l.length ∧ l[j]? ≠ some (j : Int) := Classical.byContradiction fun hne => hno ((hT t).1 fun y hy => Decidable.byContradiction fun hyn => hne ⟨y, Nat.zero_le _, by omega, by
      rw [L.fn.2 y hy]
      intro he
      have := Option.some.inj he
      omega⟩)
    have s1 := still_no (runQ wk tab slow K (d + 19)) K H hx (by omega) l.length 0 K (by omega) (by omega) hex
    have s2 : runQ wk tab slow K (d + 20) 11 [x] H = some (.bool false, H) := s1
    obtain ⟨r, H1, h1, g1, a1⟩ := mulP_ok K (by omega) d H L P hx (hv.fr hfr)
    have M := L.done P
    obtain ⟨H2, h2⟩ := times_loop K hK d P hv hT hT1 m (t + 1) fuel H1 r (doneL l p) (by omega) (by omega) (by omega) (Frame.trans hfr g1) a1 M
    have hg : ∀ k, slow.gtr (i64 (t + 1)) (.int .i64 10000) k = k (.bool false) := fun k => by rw [show (SV.int .i64 10000) = i64 10000 from rfl, n_gtr, decide_eq_false (by omega)]
    have hlen : ∀ k, slow.len r k = k (i64 n) := fun k => by rw [alen a1, M.len]
    refine ⟨H2, ?_⟩
    rw [z_loop5]
    simp only [f4_l20, s2, z_call, z_not, Bool.not_false, z_cond, cond_true, h1, z_ext0, z_ext1, n_inc (show t < 1000000 by omega), hg, z_guard, cond_false, hlen, z_neq, bne_self_eq_false, f4_j22]
    exact h2
theorem made_in (K : Nat) (C : CallC) {H0 : Heap} {nv pv cv ov ev qv w : SV} {n i odd l0 : Nat} {f : Nat → Nat} {ci : List Nat} {ws : List SV} (hc : Arr H0 cv ws) (hw : ws[i]? = some w) (hwa : Arr H0 w (natsL ci)) (hcy : IsCyc f l0 ci) (hle : ∀ x ∈ ci, l0 ≤ x) (hlt : ∀ x ∈ ci, x < n) (hl : ci.length ≤ 64) (hi : i < 64) (ho : odd ≤ 64) (S : List Nat) (k45 : SV → SV → SV → SV → SV → SV → SV → SV → Heap → Rs) : ∀ (m j fuel : Nat) (H : Heap), j + m = ci.length → m < fuel → Frame H0 H → Own H0.size H qv (natsL (partF f (S ++ ci.take j) n)) →
    ∃ H', slow.loop9 (f4_l11 slow K C k45) fuel nv pv cv ov ev qv (i64 odd) (i64 i) (i64 j) H = k45 nv pv cv ov ev qv (i64 (odd + (ci.length + 1) % 2)) (i64 (i + 1)) H' ∧ Frame H0 H' ∧ Own H0.size H' qv (natsL (partF f (S ++ ci) n))
  | 0, j, fuel, H, hj, hf, hfr, hq => by
    obtain ⟨fuel, rfl⟩ : ∃ m, fuel = m + 1 := ⟨fuel - 1, by omega⟩
    have hwn : ∀ k, slow.len w k = k (i64 ci.length) := fun k => by rw [hwa.len, natsL_len]
    have hjn : ¬ j < ci.length := by omega
    rw [List.take_of_length_le (by omega)] at hq
    have hm2 := Nat.mod_lt (ci.length + 1) (show 0 < 2 by omega)
    have e1 : ∀ k, slow.rem (i64 (ci.length + 1)) (.int .i64 2) k = k (i64 ((ci.length + 1) % 2)) := fun k => n_rem k .i64 _ (b := 2) (by decide)
    refine ⟨H, ?_, hfr, hq⟩
    rw [z_loop9]
    simp only [f4_l11, (hc.fr hfr).load hw, hwn, n_lss, decide_eq_false hjn, z_cond, cond_false, n_inc (show ci.length < 1000000 by omega), e1, n_addi _ (show odd + (ci.length + 1) % 2 < 9223372036854775808 by omega), n_inc (show i < 1000000 by omega)]
  | m + 1, j, fuel, H, hj, hf, hfr, hq => by
    obtain ⟨fuel, rfl⟩ : ∃ m, fuel = m + 1 := ⟨fuel - 1, by omega⟩
    have hwn : ∀ k, slow.len w k = k (i64 ci.length) := fun k => by rw [hwa.len, natsL_len]
    have hjl : j < ci.length := by omega
    obtain ⟨x, hx⟩ : ∃ x, ci[j]? = some x := ⟨_, List.getElem?_eq_getElem hjl⟩
    have hxm := List.mem_of_getElem? hx
    have hxl : ¬ x < l0 := by have := hle x hxm; omega
    have hxn := hlt x hxm
    have hw0 : ∀ k, slow.idx 1 w (.int .i64 0) (fun p => slow.load 1 false p H k) = k (i64 l0) := fun k => (hwa.fr hfr).load (i := 0) (natsL_get hcy.1) .i64 k
    have e1 : ∀ k, slow.rem (i64 (j + 1)) (i64 ci.length) k = k (i64 ((j + 1) % ci.length)) := fun k => n_rem k .i64 _ (by omega)
    obtain ⟨H1, st, o1, g1, _, _⟩ := hq.store (i := x) (by rw [natsL_len, partF_len]; exact hxn) (x := i64 (f x)) rfl .i64
    rw [natsL_set, partF_set f _ hxn, List.append_assoc] at o1
    have e2 : ci.take j ++ [x] = ci.take (j + 1) := by rw [List.take_add_one, hx]; rfl
    rw [e2] at o1
    obtain ⟨H2, h2, g2⟩ := made_in K C hc hw hwa hcy hle hlt hl hi ho S k45 m (j + 1) fuel H1 (by omega) (by omega) (Fr.trans hfr g1) o1
    refine ⟨H2, ?_, g2⟩
    rw [z_loop9]
    simp only [f4_l11, (hc.fr hfr).load hw, hwn, n_lss, decide_eq_true hjl, z_cond, cond_true, (hwa.fr hfr).load (natsL_get hx), hw0, decide_eq_false hxl, cond_false, n_inc (show j < 1000000 by omega), e1, (hwa.fr hfr).load (natsL_get (hcy.step hx)), st]
    exact h2
theorem made_out (K : Nat) (hK : 1000000 < K) (d : Nat) {H0 : Heap} {pv cv qv : SV} {n T : Nat} {f : Nat → Nat} {p : List Int} {cs : List (List Nat)} {ws : List SV} (P : IsP p n f) (hp : Arr H0 pv (intsL .i64 p)) (hT : ∀ t, (∀ x, x < n → it f t x = x) ↔ T ∣ t) (hT0 : 0 < T) (hT1 : T < 10000) (hC : CycTo f n cs) (hc : Arr H0 cv ws) (hwl : ws.length = cs.length) (hws : ∀ (q : Nat) w l, ws[q]? = some w → cs[q]? = some l → Arr H0 w (natsL l)) : ∀ (m i fuel : Nat) (H : Heap), i + m = cs.length → m < fuel → Frame H0 H → Own H0.size H qv (natsL (partF f (cs.take i).flatten n)) →
    ∃ H', slow.loop8 (f4_l7 slow K (runQ wk tab slow K (d + 20))) fuel (i64 n) pv cv (.str (dec T)) (.bool (!parC cs)) qv (i64 (oddS (cs.take i))) (i64 i) H = some (.bool true, H')
  | 0, i, fuel, H, hi, hf, hfr, hq => by
    obtain ⟨fuel, rfl⟩ : ∃ m, fuel = m + 1 := ⟨fuel - 1, by omega⟩
    have hcn : ∀ k, slow.len cv k = k (i64 cs.length) := fun k => by rw [hc.len, hwl]
    have hin : ¬ i < cs.length := by omega
    rw [List.take_of_length_le (by omega)] at hq ⊢
    rw [nats_ints, hC.part P.inj P.lt P.fn] at hq
    have hll := P.len
    have hn64 := P.le
    have s1 := psame_ok K (d + 19) H (hp.fr hfr) hq.arr (by omega) (by omega)
    rw [show d + 19 + 1 = d + 20 from rfl, decide_eq_true rfl] at s1
    have e1 : ∀ k, slow.rem (i64 (oddS cs)) (.int .i64 2) k = k (i64 ((parC cs).toNat)) := fun k => by
      rw [← oddS_par]
      exact n_rem k .i64 _ (b := 2) (by decide)
    have e2 : ∀ k, slow.eql (i64 ((parC cs).toNat)) (.int .i64 0) k = k (.bool (!parC cs)) := fun k => by
      rw [z_eql]
      cases parC cs <;> rfl
    have e3 : (!(!parC cs) == (!parC cs)) = (!true) := by cases parC cs <;> rfl
    obtain ⟨H1, h1⟩ := times_loop K hK d P hp hT hT1 (T - 1) 1 K H pv p (by omega) (by omega) (by omega) hfr (hp.fr hfr) P
    refine ⟨H1, ?_⟩
    rw [z_loop8]
    simp only [f4_l7, hcn, n_lss, decide_eq_false hin, z_cond, cond_false, s1, z_call, z_not, Bool.not_true, z_guard, e1, e2, z_bneq, beq_self_eq_true, f4_j18]
    exact h1
  | m + 1, i, fuel, H, hi, hf, hfr, hq => by
    obtain ⟨fuel, rfl⟩ : ∃ m, fuel = m + 1 := ⟨fuel - 1, by omega⟩
    have hcn : ∀ k, slow.len cv k = k (i64 cs.length) := fun k => by rw [hc.len, hwl]
    have hil : i < cs.length := by omega
    have hn64 := P.le
    have hcl := cyc_len hC
    have G := hC.good P.inj P.lt (Nat.le_refl _)
    have CI := hC.inv P.inj P.lt (Nat.le_refl _)
    obtain ⟨ci, hci⟩ : ∃ ci, cs[i]? = some ci := ⟨_, List.getElem?_eq_getElem hil⟩
    obtain ⟨w, hw⟩ : ∃ w, ws[i]? = some w := ⟨_, List.getElem?_eq_getElem (by omega)⟩
    have hcm := List.mem_of_getElem? hci
    have hwa := hws i w ci hw hci
    obtain ⟨l0, hcy, hl0, _, hle⟩ := G.each ci hcm
    have hlt : ∀ x ∈ ci, x < n := fun x hx => CI.lt x (List.mem_flatten.2 ⟨ci, hcm, hx⟩)
    have hc64 := nodup_len (flat_nodup CI.nd hcm) hlt
    have hwn : ∀ k, slow.len w k = k (i64 ci.length) := fun k => by rw [hwa.len, natsL_len]
    have h2 := G.two hcm
    have e1 : ∀ k, slow.lss (i64 ci.length) (.int .i64 2) k = k (.bool false) := fun k => by rw [show (SV.int .i64 2) = i64 2 from rfl, n_lss, decide_eq_false (by omega)]
    have hod := oddS_le (cs.take i)
    rw [List.length_take] at hod
    obtain ⟨H1, h1, g1, o1⟩ := made_in K (runQ wk tab slow K (d + 20)) (nv := i64 n) (pv := pv) (ov := .str (dec T)) (ev := .bool (!parC cs)) hc hw hwa hcy hle hlt (by omega) (show i < 64 by omega) (odd := oddS (cs.take i)) (by omega) (cs.take i).flatten (slow.loop8 (f4_l7 slow K (runQ wk tab slow K (d + 20))) fuel) ci.length 0 K H (by omega) (by omega) hfr (by simpa using hq)
    rw [← flat_take hci] at o1
    obtain ⟨H2, h3⟩ := made_out K hK d P hp hT hT0 hT1 hC hc hwl hws m (i + 1) fuel H1 (by omega) (by omega) g1 o1
    rw [oddS_take hci] at h3
    refine ⟨H2, ?_⟩
    rw [z_loop8]
    simp only [f4_l7, hcn, n_lss, decide_eq_true hil, z_cond, cond_true, (hc.fr hfr).load hw, hwn, e1, z_guard, cond_false]
    by_cases h0 : i = 0
    · subst h0
      have e2 : ∀ k, slow.gtr (i64 0) (.int .i64 0) k = k (.bool false) := fun k => by rw [z_gtr]; rfl
      simp only [e2, z_guard, cond_false, f4_j9, z_cond]
      exact h1.trans h3
    · have e2 : ∀ k, slow.gtr (i64 i) (.int .i64 0) k = k (.bool true) := fun k => by rw [show (SV.int .i64 0) = i64 0 from rfl, n_gtr, decide_eq_true (by omega)]
      obtain ⟨cj, hcj⟩ : ∃ cj, cs[i - 1]? = some cj := ⟨_, List.getElem?_eq_getElem (by omega)⟩
      obtain ⟨u, hu⟩ : ∃ u, ws[i - 1]? = some u := ⟨_, List.getElem?_eq_getElem (by omega)⟩
      obtain ⟨a, b, ha, hb, hab⟩ := G.up (i - 1) cj ci hcj (by rw [show i - 1 + 1 = i by omega]; exact hci)
      have hwu := hws (i - 1) u cj hu hcj
      have e3 : ∀ k, slow.sub (i64 i) (.int .i64 1) k = k (i64 (i - 1)) := fun k => n_subi k (b := 1) (by omega) (by omega)
      have l1 : ∀ k, slow.idx 1 w (.int .i64 0) (fun p => slow.load 1 false p H k) = k (i64 b) := fun k => (hwa.fr hfr).load (i := 0) (natsL_get hb) .i64 k
      have l2 : ∀ k, slow.idx 1 u (.int .i64 0) (fun p => slow.load 1 false p H k) = k (i64 a) := fun k => (hwu.fr hfr).load (i := 0) (natsL_get ha) .i64 k
      have hnle : ¬ b ≤ a := by omega
      simp only [e2, z_guard, cond_true, (hc.fr hfr).load hw, l1, e3, (hc.fr hfr).load hu, l2, n_leq, decide_eq_false hnle, f4_j9, z_cond, cond_false]
      exact h1.trans h3
theorem made_init (K : Nat) (C : CallC) {H0 : Heap} {n : Nat} (hn : n ≤ 64) {pv cv ov ev qv : SV} : ∀ (m i fuel : Nat) (H : Heap), i + m = n → m < fuel → Frame H0 H → Own H0.size H qv (natsL (upTo n i)) →
    ∃ H', slow.loop7 (f4_l3 slow K C) fuel (i64 n) pv cv ov ev qv (i64 i) H = slow.loop8 (f4_l7 slow K C) K (i64 n) pv cv ov ev qv (i64 0) (i64 0) H' ∧ Frame H0 H' ∧ Own H0.size H' qv (natsL (List.range n))
  | 0, i, fuel, H, him, hf, hfr, ho => by
    obtain ⟨fuel, rfl⟩ : ∃ m, fuel = m + 1 := ⟨fuel - 1, by omega⟩
    have hi : i = n := by omega
    subst hi
    rw [upTo_all] at ho
    refine ⟨H, ?_, hfr, ho⟩
    rw [z_loop7]
    have hlt : ¬ i < i := Nat.lt_irrefl i
    simp only [f4_l3, n_lss, decide_eq_false hlt, z_cond, cond_false]
    rfl
  | m + 1, i, fuel, H, him, hf, hfr, ho => by
    obtain ⟨fuel, rfl⟩ : ∃ m, fuel = m + 1 := ⟨fuel - 1, by omega⟩
    have hi : i < n := by omega
    obtain ⟨H1, st, ho1, g1, sz1, hro⟩ := ho.store (i := i) (by rw [natsL_len, upTo_len (by omega)]; exact hi) (x := i64 i) rfl .i64
    rw [natsL_set, upTo_set hi] at ho1
    obtain ⟨H2, h2, g2, ho2⟩ := made_init K C hn m (i + 1) fuel H1 (by omega) (by omega) (Fr.trans hfr g1) ho1
    refine ⟨H2, ?_, g2, ho2⟩
    rw [z_loop7]
    simp only [f4_l3, n_lss, decide_eq_true hi, z_cond, cond_true, st, n_inc (show i < 1000000 by omega)]
    exact h2
theorem cycs_ok (K : Nat) (hK : 1000000 < K) (d : Nat) (H : Heap) {a : SV} {l : List Int} (ha : Arr H a (intsL .u8 l)) (hl : ∀ x ∈ l, 0 ≤ x ∧ x < 256) {N : Nat} (hN : N < 256) :
    ∃ H', runQ wk tab slow K (d + 21) 4 [a, u8 N] H = some (.bool true, H') := by
  obtain ⟨n, hn⟩ : ∃ n, N % 20 + 1 = n := ⟨_, rfl⟩
  have hn1 : 0 < n := by omega
  have hn2 : n ≤ 20 := by have := Nat.mod_lt N (show 0 < 20 by omega); omega
  have hK1 : 1000 < K := by omega
  obtain ⟨pv, H1, p, h1, g1, o1, l1, k1⟩ := shuf_ok K hK1 (d + 19) H hn1 (by omega) ha hl
  rw [show d + 19 + 1 = d + 20 from rfl] at h1
  have P := IsP.of k1 l1
  obtain ⟨cv, H2, h2, g2, c2, _⟩ := cycles_ok K hK1 (d + 18) H1 o1.arr
  rw [show d + 18 + 2 = d + 20 from rfl, k1] at h2
  obtain ⟨cs, ⟨ws, w1, w2, w3⟩, hC⟩ := c2 k1
  obtain ⟨s, H3, h3, g3, c3, _⟩ := order_ok K hK (d + 14) H2 (o1.arr.fr g2)
  rw [show d + 14 + 6 = d + 20 from rfl, k1] at h3
  obtain ⟨cs', hC', rfl⟩ := c3 k1
  obtain ⟨H4, h4, g4⟩ := evenP_ok K hK1 d H3 P ((o1.arr.fr g2).fr g3)
  rw [l1] at hC hC'
  have F4 : Frame H2 H4 := g3.trans g4
  obtain ⟨T, hTe⟩ : ∃ T, lcmF 1 (cs'.map List.length) = T := ⟨_, rfl⟩
  obtain ⟨t0, t1⟩ := order_lt P.inj P.lt hC' hn2
  have hT := it_dvd P.inj P.lt hC'
  rw [hTe] at h3 t0 t1 hT
  rw [hC.sign P.inj P.lt] at h4
  obtain ⟨qv, H5, h5, o5, g5, _, _⟩ := z_make (H := H4) (lo := H4.size) (Nat.le_refl _) 8 (.int .i64 0) n (by omega) (roomy_small (by omega)) .i64 .i64
  have e0 : List.replicate n (SV.int .i64 0) = natsL (upTo n 0) := by simp [natsL, upTo]
  rw [e0] at o5
  obtain ⟨H6, h6, g6, o6⟩ := made_init K (runQ wk tab slow K (d + 20)) (pv := pv) (cv := cv) (ov := .str (dec T)) (ev := .bool (!parC cs)) (show n ≤ 64 by omega) n 0 K H5 (by omega) (by omega) g5 o5
  rw [← partF_nil (fnI p) n] at o6
  have hcl := cyc_len hC
  obtain ⟨H7, h7⟩ := made_out K hK d P ((o1.arr.fr g2).fr F4) hT t0 t1 hC (w1.arr.fr F4) w2 (fun q w l hw hl => (w3 q w l hw hl).arr.fr F4) cs.length 0 K H6 (by omega) (by omega) g6 (by simpa using o6)
  refine ⟨H7, ?_⟩
  show f4 slow K (runQ wk tab slow K (d + 20)) a (u8 N) H = _
  simp only [f4]
  rw [n_convi _ .u8 N (by omega), show (SV.int .i64 20) = i64 20 from rfl, n_rem _ .i64 N (by omega), n_inc (show N % 20 < 1000000 by omega), hn]
  simp only [h1, h2, h3, h4, z_call, z_ext0, z_ext1, z_neq, bne_self_eq_false, z_guard, cond_false, f4_j1, z_cond, h5]
  exact h6.trans h7
end Go.Sh.Of

/- Contracts of the layer perm: Cycles, Even. -/
import Derived.Test.YtdmpghboginogaaPermM
import Derived.Test.YtdmpghboginogaaCycA
set_option linter.unusedVariables false
set_option linter.unusedSimpArgs false
namespace Go.Sh.Of
open Go

def marksN (F : List Nat) : List SV := (List.range 64).map fun (j : Nat) => SV.bool (decide (j ∈ F))
theorem marksN_len (F : List Nat) : (marksN F).length = 64 := by simp [marksN]
theorem marksN_get {j : Nat} (h : j < 64) (F : List Nat) : (marksN F)[j]? = some (.bool (decide (j ∈ F))) := by simp [marksN, h]
theorem marksN_set {j : Nat} (h : j < 64) (F : List Nat) : (marksN F).set j (.bool true) = marksN (F ++ [j]) := by
  apply List.ext_getElem?
  intro i
  by_cases hi : i < 64
  · rw [marksN_get hi]
    by_cases e : j = i
    · subst e
      rw [List.getElem?_set_self (by rw [marksN_len]; exact h)]
      simp
    · rw [List.getElem?_set_ne e, marksN_get hi]
      have : (i ∈ F ++ [j]) ↔ i ∈ F := by
        rw [List.mem_append, List.mem_singleton]
        exact ⟨fun h => h.elim id fun h => absurd h.symm e, .inl⟩
      exact congrArg (fun b => some (SV.bool b)) (decide_eq_decide.2 this.symm)
  · rw [List.getElem?_eq_none (by rw [List.length_set, marksN_len]; omega), List.getElem?_eq_none (by rw [marksN_len]; omega)]
theorem marksN_nil : marksN [] = List.replicate 64 (.bool false) := by
  simp [marksN]
  rfl
theorem flat_nodup : ∀ {cs : List (List Nat)} {c : List Nat}, cs.flatten.Nodup → c ∈ cs → c.Nodup
  | [], c, _, hc => by cases hc
  | d :: cs, c, h, hc => by
    rw [List.flatten_cons, List.nodup_append] at h
    rcases List.mem_cons.1 hc with rfl | hc
    · exact h.1
    · exact flat_nodup h.2.1 hc
theorem nodup_len {n : Nat} {R : List Nat} (h : R.Nodup) (hb : ∀ y ∈ R, y < n) : R.length ≤ n := by
  have := sub_len (B := List.range n) h fun x hx => List.mem_range.2 (hb x hx)
  rwa [List.length_range] at this
/-- Where a walk comes back, it comes back to its first point. -/
theorem walk_back {f : Nat → Nat} {n i k : Nat} (hf : InjOn f n) {F c : List Nat} (hbk : ∀ x, x < n → f x ∈ F → x ∈ F) (hiF : i ∉ F) (hp : Path f (c ++ [k])) (h0 : (c ++ [k])[0]? = some i) (hn : c.Nodup) (hc : ∀ x ∈ c, x < n ∧ x ∉ F) (hk : k ∈ F ++ c) : IsCyc f i c := by
  have hne : c ≠ [] := fun e => by
    subst e
    simp at h0 hk
    rw [h0] at hk
    exact hiF hk
  have hl : 0 < c.length := List.length_pos_iff.2 hne
  obtain ⟨z, hz⟩ : ∃ z, c[c.length - 1]? = some z := ⟨_, List.getElem?_eq_getElem (by omega)⟩
  have hzm := List.mem_of_getElem? hz
  have hfz : f z = k := hp (c.length - 1) z k (by rw [List.getElem?_append_left (by omega)]; exact hz) (by rw [show c.length - 1 + 1 = c.length by omega]; simp)
  have hkF : k ∉ F := fun h => (hc z hzm).2 (hbk z (hc z hzm).1 (by rw [hfz]; exact h))
  have hkc : k ∈ c := (List.mem_append.1 hk).resolve_left hkF
  have h0' : c[0]? = some i := by rwa [List.getElem?_append_left hl] at h0
  have hki : k = i := by
    obtain ⟨j, hj⟩ := List.getElem?_of_mem hkc
    cases j with
    | zero => rw [h0'] at hj; exact (Option.some.inj hj).symm
    | succ j =>
      have hjl := (List.getElem?_eq_some_iff.1 hj).1
      obtain ⟨y, hy⟩ : ∃ y, c[j]? = some y := ⟨_, List.getElem?_eq_getElem (by omega)⟩
      have hfy : f y = k := hp j y k (by rw [List.getElem?_append_left (by omega)]; exact hy) (by rw [List.getElem?_append_left hjl]; exact hj)
      have hyz := hf y z (hc y (List.mem_of_getElem? hy)).1 (hc z hzm).1 (hfy.trans hfz.symm)
      subst hyz
      unfold List.Nodup at hn
      rw [List.pairwise_iff_getElem] at hn
      obtain ⟨l1, e1⟩ := List.getElem?_eq_some_iff.1 hy
      obtain ⟨l2, e2⟩ := List.getElem?_eq_some_iff.1 hz
      exact absurd (e1.trans e2.symm) (hn j (c.length - 1) l1 l2 (by omega))
  rw [hki] at hp
  exact ⟨h0', hn, hp⟩
theorem cyc_in (K : Nat) (C : CallC) {Hi : Heap} {v out : SV} {l : List Int} {n i lo : Nat} {f : Nat → Nat} (hv : Arr Hi v (intsL .i64 l)) (hl : IsFn l n f) (hn : n ≤ 64) (hf : InjOn f n) (hb : ∀ x, x < n → f x < n) {cs : List (List Nat)} (hcs : CInv f n i cs) (hcl : cs.length ≤ 64) (hiF : i ∉ cs.flatten) (hi : i < n) (hlo : lo ≤ Hi.size) (hout : OutOk lo Hi out cs) (k13 : SV → SV → SV → SV → SV → Heap → Rs) : ∀ (fuel : Nat) (H : Heap) (c : List Nat) (k : Nat) (t : SV), n + 1 ≤ c.length + fuel → Frame Hi H → Own Hi.size H t (natsL c) → Path f (c ++ [k]) → (c ++ [k])[0]? = some i → c.Nodup → (∀ x ∈ c, x < n ∧ x ∉ cs.flatten) → k < n →
    ∃ c' out' H', slow.loop7 (f13_l7 slow K C k13) fuel v (.box (marksN (cs.flatten ++ c))) out t (i64 k) (i64 n) (i64 i) H = k13 v (.box (marksN (cs ++ [c']).flatten)) out' (i64 n) (i64 (i + 1)) H' ∧ Fr lo Hi H' ∧ OutOk lo H' out' (cs ++ [c']) ∧ IsCyc f i c'
  | 0, H, c, k, t, hfu, hfr, ht, hp, h0, hnd, hc, hk => by
    have := nodup_len hnd fun y hy => (hc y hy).1
    omega
  | fuel + 1, H, c, k, t, hfu, hfr, ht, hp, h0, hnd, hc, hk => by
    have hcl' := nodup_len hnd fun y hy => (hc y hy).1
    rw [z_loop7]
    simp only [f13_l7, z_lld (show k < 64 by omega) (marksN_get (show k < 64 by omega) (cs.flatten ++ c)), z_not, z_cond]
    by_cases hm : k ∈ cs.flatten ++ c
    · have hcyc := walk_back hf hcs.bk hiF hp h0 hnd hc hm
      obtain ⟨ws, w1, w2, w3⟩ := hout
      have w1' := w1.fr hfr
      have w3' : ∀ (q : Nat) w l, ws[q]? = some w → cs[q]? = some l → Own lo H w (natsL l) := fun q w l hw hl => (w3 q w l hw hl).fr hfr
      obtain ⟨out', H2, hpu, ho2, f2, ro2, ge2⟩ := pushO w1' (Nat.le_trans hlo hfr.size) (.slice nilSl) (x := t) ht.arr.flat (by_ := 24) (roomy_small (by omega))
      refine ⟨c, out', H2, ?_, (hfr.mono hlo).trans f2, ⟨ws ++ [t], ho2, by simp [w2], fun q w l hw hl => ?_⟩, hcyc⟩
      · rw [decide_eq_true hm, flat_snoc]
        simp only [Bool.not_true, cond_false, hpu, f13_j5]
        rw [show (SV.int .i64 1) = i64 1 from rfl, n_addi _ (by omega)]
      · by_cases hq : q < ws.length
        · rw [List.getElem?_append_left hq] at hw
          rw [List.getElem?_append_left (by omega)] at hl
          have hb := w3' q w l hw hl
          exact Own.ofr hb fun r hr => ro2 r (out_kind w1' w2 w3' hw hl hr) (own_lt hb hr).2.1
        · have hq2 : q = ws.length := by have := (List.getElem?_eq_some_iff.1 hw).1; simp at this; omega
          subst hq2
          simp at hw
          subst hw
          rw [w2] at hl
          simp at hl
          subst hl
          refine (Own.ofr ht fun r hr => ro2 r (fun h => ?_) (own_lt ht hr).2.1).mono hlo
          have h1 := (own_lt ht hr).1
          have h2 := (own_lt w1 h).2.1
          omega
    · obtain ⟨t', H2, hpu, ht2, f2, _⟩ := pushO ht hfr.size (.int .i64 0) (x := i64 k) rfl (by_ := 8) (roomy_small (by rw [natsL_len]; omega))
      have e1 : natsL c ++ [i64 k] = natsL (c ++ [k]) := by simp [natsL]
      rw [e1] at ht2
      have hkc : k ∉ c := fun h => hm (by simp [h])
      have hkF : k ∉ cs.flatten := fun h => hm (List.mem_append.2 (.inl h))
      have hfr2 : Frame Hi H2 := Fr.trans hfr f2
      obtain ⟨c', out', H3, h3, g3⟩ := cyc_in K C hv hl hn hf hb hcs hcl hiF hi hlo hout k13 fuel H2 (c ++ [k]) (f k) t' (by simp; omega) hfr2 ht2 hp.snoc (by
        rw [List.getElem?_append_left (by simp)]
        exact h0) (by
        rw [List.nodup_append]
        exact ⟨hnd, by simp, fun a ha b hb' e => by
          rw [List.mem_singleton] at hb'
          subst hb'
          exact hkc (e ▸ ha)⟩) (fun x hx => by
        rcases List.mem_append.1 hx with hx | hx
        · exact hc x hx
        · rw [List.mem_singleton.1 hx]
          exact ⟨hk, hkF⟩) (hb k hk)
      refine ⟨c', out', H3, ?_, g3⟩
      rw [decide_eq_false hm]
      simp only [Bool.not_false, cond_true]
      rw [z_lst (show k < 64 by omega) (by rw [marksN_len]; omega) rfl, marksN_set (by omega), List.append_assoc]
      simp only [hpu, (hv.fr hfr2).load (ints_get (hl.2 k hk))]
      exact h3
theorem cyc_len {f : Nat → Nat} {i : Nat} {cs : List (List Nat)} (h : CycTo f i cs) : cs.length ≤ i := by
  induction h with
  | zero => simp
  | skip _ _ ih => omega
  | add _ _ _ _ ih => simp; omega
theorem cyc_loop (K : Nat) (hK : 1000 < K) (C : CallC) {H0 : Heap} {v : SV} {l : List Int} {n : Nat} {f : Nat → Nat} (hv : Arr H0 v (intsL .i64 l)) (hl : IsFn l n f) (hn : n ≤ 64) (hf : InjOn f n) (hb : ∀ x, x < n → f x < n) : ∀ (m i fuel : Nat) (H : Heap) (out : SV) (cs : List (List Nat)), i + m = n → m < fuel → Frame H0 H → OutOk H0.size H out cs → CycTo f i cs →
    ∃ r H' cs', slow.loop5 (f13_l2 slow K C) fuel v (.box (marksN cs.flatten)) out (i64 n) (i64 i) H = some (.tuple [r, .int .i64 0], H') ∧ Frame H0 H' ∧ OutOk H0.size H' r cs' ∧ CycTo f n cs'
  | 0, i, fuel, H, out, cs, him, hfu, hfr, ho, hc => by
    obtain ⟨fuel, rfl⟩ : ∃ m, fuel = m + 1 := ⟨fuel - 1, by omega⟩
    have hi : i = n := by omega
    subst hi
    have hlt : ¬ i < i := Nat.lt_irrefl i
    have hg : out.good = true := by
      obtain ⟨ws, h, _⟩ := ho
      exact h.arr.good
    refine ⟨out, H, cs, ?_, hfr, ho, hc⟩
    rw [z_loop5]
    simp only [f13_l2, n_lss, decide_eq_false hlt, z_cond, cond_false, z_rest hg]
  | m + 1, i, fuel, H, out, cs, him, hfu, hfr, ho, hc => by
    obtain ⟨fuel, rfl⟩ : ∃ m, fuel = m + 1 := ⟨fuel - 1, by omega⟩
    have hi : i < n := by omega
    have hskip : ∀ (hs : f i = i ∨ i ∈ cs.flatten), ∃ r H' cs', f13_j4 slow K C (slow.loop5 (f13_l2 slow K C) fuel) v (.box (marksN cs.flatten)) out (i64 i) (i64 n) (i64 i) (.bool true) H = some (.tuple [r, .int .i64 0], H') ∧ Frame H0 H' ∧ OutOk H0.size H' r cs' ∧ CycTo f n cs' := fun hs => by
      obtain ⟨r, H1, cs1, h1, g1⟩ := cyc_loop K hK C hv hl hn hf hb m (i + 1) fuel H out cs (by omega) (by omega) hfr ho (hc.skip hs)
      refine ⟨r, H1, cs1, ?_, g1⟩
      simp only [f13_j4, f13_j5, z_cond, cond_true]
      rw [show (SV.int .i64 1) = i64 1 from rfl, n_addi _ (by omega)]
      exact h1
    rw [z_loop5]
    simp only [f13_l2, n_lss, decide_eq_true hi, z_cond, cond_true, z_lld (show i < 64 by omega) (marksN_get (show i < 64 by omega) cs.flatten), z_guard]
    by_cases hm : i ∈ cs.flatten
    · rw [decide_eq_true hm, cond_true]
      exact hskip (.inr hm)
    · rw [decide_eq_false hm, cond_false]
      simp only [(hv.fr hfr).load (ints_get (hl.2 i hi)), n_eql]
      by_cases hfi : f i = i
      · rw [decide_eq_true hfi]
        exact hskip (.inl hfi)
      · rw [decide_eq_false hfi]
        have hcl := cyc_len hc
        obtain ⟨c', out', H1, h1, f1, o1, y1⟩ := cyc_in K C (Hi := H) (hv.fr hfr) hl hn hf hb (hc.inv hf hb (by omega)) (by omega) hm hi hfr.size ho (slow.loop5 (f13_l2 slow K C) fuel) K H [] i (.slice nilSl) (by simp; omega) (Fr.refl _ _) (by simpa [natsL] using Own.nil H.size H) (fun j x y hx hy => by
          have := (List.getElem?_eq_some_iff.1 hy).1
          simp at this) (by simp) (by simp) (fun x hx => by cases hx) hi
        obtain ⟨r, H2, cs2, h2, g2⟩ := cyc_loop K hK C hv hl hn hf hb m (i + 1) fuel H1 out' (cs ++ [c']) (by omega) (by omega) (Fr.trans hfr f1) o1 (hc.add hfi hm y1)
        refine ⟨r, H2, cs2, ?_, g2⟩
        simp only [f13_j4, z_cond, cond_false]
        rw [List.append_nil] at h1
        exact h1.trans h2
theorem cycles_ok (K : Nat) (hK : 1000 < K) (d : Nat) (H : Heap) {v : SV} {p : List Int} (hv : Arr H v (intsL .i64 p)) :
    ∃ r H', runQ wk tab slow K (d + 2) 13 [v] H = some (.tuple [r, .int .i64 (ckE p)], H') ∧ Frame H H' ∧ (ckE p = 0 → ∃ cs, OutOk H.size H' r cs ∧ CycTo (fnI p) p.length cs) ∧ (ckE p ≠ 0 → r = .slice nilSl) := by
  show ∃ r H', f13 slow K (runQ wk tab slow K (d + 1)) v H = _ ∧ _
  simp only [f13, check_ok K (by omega) d H hv, z_call, z_neq]
  by_cases h0 : ckE p = 0
  · have hb : (ckE p != 0) = false := by simp [h0]
    obtain ⟨a1, a2, a3⟩ := ck_fn h0
    simp only [hb, z_cond, cond_false, alen hv]
    obtain ⟨r, H1, cs, h1, f1, o1, c1⟩ := cyc_loop K hK (runQ wk tab slow K (d + 1)) hv a1 (ck_zero h0).1 a2 a3 p.length 0 K H (.slice nilSl) [] (by omega) (by have := (ck_zero h0).1; omega) (Fr.refl _ _) ⟨[], Own.nil _ _, rfl, fun q w l hw => by simp at hw⟩ .zero
    refine ⟨r, H1, ?_, f1, fun _ => ⟨cs, o1, c1⟩, fun h => absurd h0 h⟩
    rw [List.flatten_nil, marksN_nil] at h1
    rw [h0]
    exact h1
  · have hb : (ckE p != 0) = true := by simp [h0]
    simp only [hb, z_cond, cond_true, z_rest_int]
    exact ⟨_, H, rfl, Fr.refl _ _, fun h => absurd h h0, fun _ => rfl⟩
/-! ### The sign -/
theorem z_and1 (L : Nat) (hL : L < 1000000) (k : K1) : slow.and (i64 L) (.int .i64 1) k = k (i64 (isOdd L).toNat) := by
  rw [← qAnd_eq]
  show nK .i64 (.ofNat (Nat.land (Nat.mod L (Nat.pow 2 64)) (Nat.mod 1 (Nat.pow 2 64)))) k = _
  have e : Nat.land (Nat.mod L (Nat.pow 2 64)) (Nat.mod 1 (Nat.pow 2 64)) = (isOdd L).toNat := by
    show (L % 2 ^ 64) &&& (1 % 2 ^ 64) = _
    rw [Nat.mod_eq_of_lt (by omega), Nat.mod_eq_of_lt (by omega), Nat.and_one_is_mod]
    unfold isOdd
    rcases Nat.mod_two_eq_zero_or_one L with h | h <;> rw [h] <;> rfl
  have hlt : (isOdd L).toNat < 9223372036854775808 := by cases isOdd L <;> decide
  rw [nK_eq, e, wrapB, Int.ofNat_eq_natCast, wrap_i _ hlt]
theorem z_xorb (a b : Bool) (k : K1) : slow.xor (i64 a.toNat) (i64 b.toNat) k = k (i64 (xor a b).toNat) := by
  rw [← qXor_eq]
  show nK .i64 (.ofNat (Nat.xor (Nat.mod a.toNat (Nat.pow 2 64)) (Nat.mod b.toNat (Nat.pow 2 64)))) k = _
  have e : Nat.xor (Nat.mod a.toNat (Nat.pow 2 64)) (Nat.mod b.toNat (Nat.pow 2 64)) = (xor a b).toNat := by cases a <;> cases b <;> rfl
  have hlt : (xor a b).toNat < 9223372036854775808 := by cases xor a b <;> decide
  rw [nK_eq, e, wrapB, Int.ofNat_eq_natCast, wrap_i _ hlt]
theorem even_loop (C : CallC) (K : Nat) {H : Heap} {r : SV} {cs : List (List Nat)} {ws : List SV} (hr : Arr H r ws) (hwl : ws.length = cs.length) (hw : ∀ (q : Nat) w l, ws[q]? = some w → cs[q]? = some l → Arr H w (natsL l)) (hcl : cs.length ≤ 64) (hc : ∀ c ∈ cs, c.length ≤ 64) : ∀ (rest : List (List Nat)) (i fuel : Nat) (b : Bool), cs.drop i = rest → rest.length < fuel →
    slow.loop5 (f9_l1 slow K C) fuel (.int .i64 0) (i64 b.toNat) r (i64 cs.length) (i64 i) H = some (.tuple [.bool (!xor b (parC rest)), .int .i64 0], H)
  | [], i, fuel, b, hd, hf => by
    obtain ⟨fuel, rfl⟩ : ∃ m, fuel = m + 1 := ⟨fuel - 1, by omega⟩
    have hi : ¬ i < cs.length := by have := List.drop_eq_nil_iff.1 hd; omega
    have hb : (((b.toNat : Nat) : Int) == 0) = !xor b (parC []) := by cases b <;> rfl
    rw [z_loop5]
    simp only [f9_l1, n_lss, decide_eq_false hi, z_cond, cond_false, z_eql, beq_self_eq_true, z_guard, cond_true, hb, f9_j5, z_rest_bool, z_rest_int]
  | c :: rest, i, fuel, b, hd, hf => by
    obtain ⟨fuel, rfl⟩ : ∃ m, fuel = m + 1 := ⟨fuel - 1, by omega⟩
    obtain ⟨hx, hd', hi, _⟩ := drop_cons hd
    obtain ⟨w, hw1⟩ : ∃ w, ws[i]? = some w := ⟨_, List.getElem?_eq_getElem (by omega)⟩
    have hwa := hw i w c hw1 hx
    have hwn : ∀ k, slow.len w k = k (i64 c.length) := fun k => by rw [hwa.len, natsL_len]
    have hc64 := hc c (List.mem_of_getElem? hx)
    have hx1 : ∀ (a : Bool) (k : K1), slow.xor (i64 a.toNat) (.int .i64 1) k = k (i64 (!a).toNat) := fun a k => by
      have := z_xorb a true k
      rw [Bool.xor_true] at this
      exact this
    rw [z_loop5]
    simp only [f9_l1, n_lss, decide_eq_true hi, z_cond, cond_true, hr.load hw1, hwn, z_and1 _ (show c.length < 1000000 by omega), hx1, z_xorb]
    rw [show (SV.int .i64 1) = i64 1 from rfl, n_addi _ (by omega), even_loop C K hr hwl hw hcl hc rest (i + 1) fuel _ hd' (by simp at hf; omega)]
    have e : xor (xor b (!isOdd c.length)) (parC rest) = xor b (parC (c :: rest)) := by
      rw [parC]
      cases b <;> cases isOdd c.length <;> cases parC rest <;> rfl
    rw [e]
theorem even_ok (K : Nat) (hK : 1000 < K) (d : Nat) (H : Heap) {v : SV} {p : List Int} (hv : Arr H v (intsL .i64 p)) :
    ∃ H', runQ wk tab slow K (d + 3) 9 [v] H = some (.tuple [.bool (decide (ckE p = 0) && !odd (fnI p) p.length), .int .i64 (ckE p)], H') ∧ Frame H H' := by
  obtain ⟨r, H1, h1, f1, g1, g2⟩ := cycles_ok K hK (d + 0) H hv
  rw [show d + 0 + 2 = d + 2 from rfl] at h1
  show ∃ H', f9 slow K (runQ wk tab slow K (d + 2)) v H = _ ∧ _
  simp only [f9, h1, z_call, z_ext0, z_ext1]
  by_cases h0 : ckE p = 0
  · obtain ⟨cs, ⟨ws, o1, o2, o3⟩, hc⟩ := g1 h0
    obtain ⟨a1, a2, a3⟩ := ck_fn h0
    have hci := hc.inv a2 a3 (Nat.le_refl _)
    have h64 := (ck_zero h0).1
    have hcl := cyc_len hc
    have hall : ∀ c ∈ cs, c.length ≤ 64 := fun c hcm => by
      have hsub : ∀ x ∈ c, x ∈ cs.flatten := fun x hx => List.mem_flatten.2 ⟨c, hcm, hx⟩
      have hnd : c.Nodup := flat_nodup hci.nd hcm
      have := nodup_len (n := p.length) hnd fun y hy => hci.lt y (hsub y hy)
      omega
    have hl := even_loop (runQ wk tab slow K (d + 2)) K o1.arr o2 (fun q w l hw hl => (o3 q w l hw hl).arr) (by omega) hall cs 0 K false rfl (by omega)
    refine ⟨H1, ?_, f1⟩
    rw [hc.sign a2 a3, h0, decide_eq_true rfl, Bool.true_and]
    rw [o1.arr.len, o2]
    rw [Bool.false_xor] at hl
    exact hl
  · rw [g2 h0]
    refine ⟨H1, ?_, f1⟩
    obtain ⟨K, rfl⟩ : ∃ m, K = m + 1 := ⟨K - 1, by omega⟩
    have hb : (ckE p == 0) = false := by simp [h0]
    have hlen : ∀ k, slow.len (.slice nilSl) k = k (.int .i64 0) := fun k => rfl
    rw [decide_eq_false h0, Bool.false_and, hlen, z_loop5]
    have hlt : ∀ k, slow.lss (.int .i64 0) (.int .i64 0) k = k (.bool false) := fun k => rfl
    simp only [f9_l1, hlt, z_cond, cond_false, z_eql, hb, z_guard, f9_j5, z_rest_bool, z_rest_int]
end Go.Sh.Of

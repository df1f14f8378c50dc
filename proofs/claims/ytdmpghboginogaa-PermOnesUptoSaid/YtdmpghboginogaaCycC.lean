/- Cycles make the permutation, its order and its sign: plain words. -/
import Derived.Test.YtdmpghboginogaaGroupA
import Derived.Test.YtdmpghboginogaaOrdB
set_option linter.unusedVariables false
set_option linter.unusedSimpArgs false
namespace Go.Sh.Of
open Go

/-- A function done t times. -/
def it (f : Nat → Nat) : Nat → Nat → Nat
  | 0, x => x
  | t + 1, x => f (it f t x)
theorem it_out (f : Nat → Nat) : ∀ (t x : Nat), it f (t + 1) x = it f t (f x)
  | 0, x => rfl
  | t + 1, x => by
    show f (it f (t + 1) x) = f (it f t (f x))
    rw [it_out f t x]
theorem it_lt {f : Nat → Nat} {n : Nat} (hb : ∀ x, x < n → f x < n) : ∀ (t x : Nat), x < n → it f t x < n
  | 0, x, hx => hx
  | t + 1, x, hx => hb _ (it_lt hb t x hx)
theorem it_fix {f : Nat → Nat} {x : Nat} (h : f x = x) : ∀ t, it f t x = x
  | 0 => rfl
  | t + 1 => by
    show f (it f t x) = x
    rw [it_fix h t, h]
theorem IsCyc.step {f : Nat → Nat} {i : Nat} {c : List Nat} (h : IsCyc f i c) {j x : Nat} (hx : c[j]? = some x) : c[(j + 1) % c.length]? = some (f x) := by
  have hj := (List.getElem?_eq_some_iff.1 hx).1
  obtain ⟨y, hy, e⟩ := h.next hx
  by_cases hl : j + 1 < c.length
  · rw [Nat.mod_eq_of_lt hl, e]
    rwa [List.getElem?_append_left hl] at hy
  · have e1 : j + 1 = c.length := by omega
    rw [e1, Nat.mod_self, h.1, e]
    rw [e1] at hy
    simp at hy
    rw [hy]
theorem IsCyc.it {f : Nat → Nat} {i : Nat} {c : List Nat} (h : IsCyc f i c) {j x : Nat} (hx : c[j]? = some x) : ∀ t, c[(j + t) % c.length]? = some (it f t x)
  | 0 => by
    rw [Nat.add_zero, Nat.mod_eq_of_lt (List.getElem?_eq_some_iff.1 hx).1]
    exact hx
  | t + 1 => by
    have h1 := h.step (h.it hx t)
    rw [Nat.mod_add_mod] at h1
    exact h1
theorem nodup_at {c : List Nat} (h : c.Nodup) {i j x : Nat} (hi : c[i]? = some x) (hj : c[j]? = some x) : i = j := by
  unfold List.Nodup at h
  rw [List.pairwise_iff_getElem] at h
  obtain ⟨li, ei⟩ := List.getElem?_eq_some_iff.1 hi
  obtain ⟨lj, ej⟩ := List.getElem?_eq_some_iff.1 hj
  rcases Nat.lt_trichotomy i j with hlt | e | hlt
  · exact absurd (ei.trans ej.symm) (h i j li lj hlt)
  · exact e
  · exact absurd (ej.trans ei.symm) (h j i lj li hlt)
/-- What is known of all cycles. -/
structure CGood (f : Nat → Nat) (i : Nat) (cs : List (List Nat)) : Prop where
  each : ∀ c ∈ cs, ∃ l, IsCyc f l c ∧ l < i ∧ f l ≠ l ∧ ∀ x ∈ c, l ≤ x
  up : ∀ (q : Nat) c d, cs[q]? = some c → cs[q + 1]? = some d → ∃ a b, c[0]? = some a ∧ d[0]? = some b ∧ a < b
theorem CycTo.good {f : Nat → Nat} {n : Nat} (hp : InjOn f n) (hb : ∀ x, x < n → f x < n) {i : Nat} {cs : List (List Nat)} (h : CycTo f i cs) : i ≤ n → CGood f i cs := by
  induction h with
  | zero => exact fun _ => ⟨fun c hc => (by cases hc), fun q c d hc => by simp at hc⟩
  | @skip i cs h1 hs ih =>
    intro hi
    have g := ih (by omega)
    exact ⟨fun c hc => by
      obtain ⟨l, a, b, c'⟩ := g.each c hc
      exact ⟨l, a, by omega, c'⟩, g.up⟩
  | @add i cs c h1 h2 h3 hc ih =>
    intro hi
    have g := ih (by omega)
    have hin : i < n := by omega
    have ci := h1.inv hp hb (by omega)
    refine ⟨fun d hd => ?_, fun q a b ha hb' => ?_⟩
    · rcases List.mem_append.1 hd with hd | hd
      · obtain ⟨l, a, b, c'⟩ := g.each d hd
        exact ⟨l, a, by omega, c'⟩
      · rw [List.mem_singleton.1 hd]
        refine ⟨i, hc, by omega, h2, fun x hx => Decidable.byContradiction fun hlt => ?_⟩
        have hxi : x < i := by omega
        have hxn : x < n := by omega
        obtain ⟨j, hj⟩ := List.getElem?_of_mem hx
        rcases ci.met x hxi with hf | hm
        · have := hc.first hb hin (F := [x]) (fun y hy hm => by
            rw [List.mem_singleton] at hm ⊢
            exact hp y x hy hxn (hm.trans hf.symm)) j x hj (by simp)
          rw [List.mem_singleton] at this
          omega
        · exact h3 (hc.first hb hin ci.bk j x hj hm)
    · have hl := (List.getElem?_eq_some_iff.1 hb').1
      rw [List.length_append, List.length_singleton] at hl
      by_cases hq : q + 1 < cs.length
      · rw [List.getElem?_append_left (by omega)] at ha
        rw [List.getElem?_append_left hq] at hb'
        exact g.up q a b ha hb'
      · have e : q + 1 = cs.length := by omega
        rw [List.getElem?_append_left (by omega)] at ha
        rw [e] at hb'
        simp at hb'
        subst hb'
        obtain ⟨l, a1, a2, _⟩ := g.each a (List.mem_of_getElem? ha)
        exact ⟨l, i, a1.1, hc.1, a2⟩
theorem CGood.two {f : Nat → Nat} {i : Nat} {cs : List (List Nat)} (g : CGood f i cs) {c : List Nat} (hc : c ∈ cs) : 2 ≤ c.length := by
  obtain ⟨l, a, _, b, _⟩ := g.each c hc
  have hl := (List.getElem?_eq_some_iff.1 a.1).1
  refine Decidable.byContradiction fun h => ?_
  have h1 : c.length = 1 := by omega
  have := a.step a.1
  rw [h1, Nat.mod_self, a.1] at this
  exact b (Option.some.inj this).symm
/-! ### The order -/
theorem lcmF_dvd {t : Nat} : ∀ {l : List Nat} {m : Nat}, lcmF m l ∣ t ↔ m ∣ t ∧ ∀ n ∈ l, n ∣ t
  | [], m => by simp [lcmF]
  | n :: l, m => by
    have e : m * (n / Nat.gcd m n) = Nat.lcm m n := by
      unfold Nat.lcm
      rw [Nat.mul_div_assoc _ (Nat.gcd_dvd_right m n)]
    rw [lcmF, lcmF_dvd, e, Nat.lcm_dvd_iff]
    simp only [List.mem_cons, forall_eq_or_imp]
    exact and_assoc
theorem it_dvd {f : Nat → Nat} {n : Nat} (hp : InjOn f n) (hb : ∀ x, x < n → f x < n) {cs : List (List Nat)} (h : CycTo f n cs) (t : Nat) : (∀ x, x < n → it f t x = x) ↔ lcmF 1 (cs.map List.length) ∣ t := by
  have g := h.good hp hb (Nat.le_refl _)
  have ci := h.inv hp hb (Nat.le_refl _)
  rw [lcmF_dvd]
  refine ⟨fun hx => ⟨Nat.one_dvd _, fun k hk => ?_⟩, fun hd x hx => ?_⟩
  · obtain ⟨c, hc, rfl⟩ := List.mem_map.1 hk
    obtain ⟨l, a, b, _⟩ := g.each c hc
    have h1 := a.it a.1 t
    rw [hx l b, Nat.zero_add] at h1
    exact Nat.dvd_of_mod_eq_zero (nodup_at a.2.1 h1 a.1)
  · rcases ci.met x hx with hf | hm
    · exact it_fix hf t
    · obtain ⟨c, hc, hxc⟩ := List.mem_flatten.1 hm
      obtain ⟨l, a, _⟩ := g.each c hc
      obtain ⟨j, hj⟩ := List.getElem?_of_mem hxc
      have h1 := a.it hj t
      have h2 := Nat.mod_eq_zero_of_dvd (hd.2 c.length (List.mem_map_of_mem hc))
      rw [Nat.add_mod, h2, Nat.add_zero, Nat.mod_mod, Nat.mod_eq_of_lt (List.getElem?_eq_some_iff.1 hj).1, hj] at h1
      exact (Option.some.inj h1).symm
def prodN : List Nat → Nat
  | [] => 1
  | n :: l => n * prodN l
def sumN : List Nat → Nat
  | [] => 0
  | n :: l => n + sumN l
theorem lcmF_le : ∀ {l : List Nat} {m : Nat}, lcmF m l ≤ m * prodN l
  | [], m => by simp [lcmF, prodN]
  | n :: l, m => by
    rw [lcmF, prodN, ← Nat.mul_assoc]
    exact Nat.le_trans lcmF_le (Nat.mul_le_mul (Nat.mul_le_mul (Nat.le_refl m) (Nat.div_le_self _ _)) (Nat.le_refl _))
theorem cube_le : ∀ n : Nat, n * n * n ≤ 3 ^ n
  | 0 => by decide
  | 1 => by decide
  | 2 => by decide
  | 3 => by decide
  | n + 4 => by
    have h := cube_le (n + 3)
    have e : (3 : Nat) ^ (n + 4) = 3 * 3 ^ (n + 3) := by rw [Nat.pow_succ, Nat.mul_comm]
    rw [e]
    refine Nat.le_trans ?_ (Nat.mul_le_mul (Nat.le_refl 3) h)
    obtain ⟨m, hm⟩ : ∃ m, m = n + 3 := ⟨_, rfl⟩
    have hm3 : 3 ≤ m := by omega
    rw [show n + 4 = m + 1 by omega, ← hm]
    have h1 : 3 * (m * m) ≤ m * (m * m) := Nat.mul_le_mul hm3 (Nat.le_refl _)
    have h2 : 3 * m ≤ m * m := Nat.mul_le_mul hm3 (Nat.le_refl _)
    have e1 : (m + 1) * (m + 1) * (m + 1) = m * (m * m) + 3 * (m * m) + 3 * m + 1 := by
      simp only [Nat.add_mul, Nat.mul_add, Nat.mul_assoc, Nat.one_mul, Nat.mul_one]
      omega
    have e2 : 3 * (m * m * m) = 3 * (m * (m * m)) := by rw [Nat.mul_assoc m m m]
    rw [e1, e2]
    omega
theorem prod_cube : ∀ l : List Nat, prodN l * prodN l * prodN l ≤ 3 ^ sumN l
  | [] => by decide
  | n :: l => by
    rw [prodN, sumN, Nat.pow_add]
    have e : n * prodN l * (n * prodN l) * (n * prodN l) = (n * n * n) * (prodN l * prodN l * prodN l) := by
      simp only [Nat.mul_assoc, Nat.mul_left_comm, Nat.mul_comm]
    rw [e]
    exact Nat.mul_le_mul (cube_le n) (prod_cube l)
theorem sum_flat : ∀ cs : List (List Nat), sumN (cs.map List.length) = cs.flatten.length
  | [] => rfl
  | c :: cs => by
    rw [List.map_cons, sumN, List.flatten_cons, List.length_append, sum_flat cs]
theorem order_lt {f : Nat → Nat} {n : Nat} (hp : InjOn f n) (hb : ∀ x, x < n → f x < n) {cs : List (List Nat)} (h : CycTo f n cs) (hn : n ≤ 20) : 0 < lcmF 1 (cs.map List.length) ∧ lcmF 1 (cs.map List.length) < 10000 := by
  have ci := h.inv hp hb (Nat.le_refl _)
  have h1 := nodup_len ci.nd ci.lt
  refine ⟨lcmF_pos (by decide) fun k hk => ?_, ?_⟩
  · obtain ⟨c, hc, rfl⟩ := List.mem_map.1 hk
    exact cyc_pos h c hc
  · have h2 := lcmF_le (l := cs.map List.length) (m := 1)
    rw [Nat.one_mul] at h2
    refine Nat.lt_of_le_of_lt h2 (Decidable.byContradiction fun hge => ?_)
    have hge : 10000 ≤ prodN (cs.map List.length) := by omega
    have h3 := prod_cube (cs.map List.length)
    rw [sum_flat] at h3
    have h4 : 10000 * 10000 * 10000 ≤ prodN (cs.map List.length) * prodN (cs.map List.length) * prodN (cs.map List.length) := Nat.mul_le_mul (Nat.mul_le_mul hge hge) hge
    have h5 : 3 ^ cs.flatten.length ≤ 3 ^ 20 := Nat.pow_le_pow_right (by decide) (by omega)
    have h6 : (3 : Nat) ^ 20 < 10000 * 10000 * 10000 := by decide
    omega
/-! ### The sign and the permutation again -/
def oddS : List (List Nat) → Nat
  | [] => 0
  | c :: cs => (c.length + 1) % 2 + oddS cs
theorem oddS_par : ∀ cs : List (List Nat), oddS cs % 2 = (parC cs).toNat
  | [] => rfl
  | c :: cs => by
    have ih := oddS_par cs
    rw [oddS, parC]
    unfold isOdd
    rcases Nat.mod_two_eq_zero_or_one c.length with h | h <;> cases hp : parC cs <;> rw [hp] at ih <;> simp [h] at ih ⊢ <;> omega
theorem oddS_take {cs : List (List Nat)} {i : Nat} {c : List Nat} (h : cs[i]? = some c) : oddS (cs.take (i + 1)) = oddS (cs.take i) + (c.length + 1) % 2 := by
  induction cs generalizing i with
  | nil => simp at h
  | cons d cs ih =>
    cases i with
    | zero =>
      simp at h
      subst h
      simp [oddS]
    | succ i =>
      simp at h
      rw [List.take_succ_cons, List.take_succ_cons, oddS, oddS, ih h, Nat.add_assoc]
theorem oddS_le : ∀ cs : List (List Nat), oddS cs ≤ cs.length
  | [] => Nat.le_refl _
  | c :: cs => by
    have := oddS_le cs
    have := Nat.mod_lt (c.length + 1) (show 0 < 2 by omega)
    rw [oddS, List.length_cons]
    omega
/-- The permutation at the points of S, elsewhere the points. -/
def partF (f : Nat → Nat) (S : List Nat) (k : Nat) : List Nat := (List.range k).map fun x => if x ∈ S then f x else x
theorem partF_len (f : Nat → Nat) (S : List Nat) (k : Nat) : (partF f S k).length = k := by simp [partF]
theorem partF_get (f : Nat → Nat) (S : List Nat) {k x : Nat} (h : x < k) : (partF f S k)[x]? = some (if x ∈ S then f x else x) := by simp [partF, h]
theorem partF_set (f : Nat → Nat) (S : List Nat) {k y : Nat} (h : y < k) : (partF f S k).set y (f y) = partF f (S ++ [y]) k := by
  apply List.ext_getElem?
  intro x
  by_cases hx : x < k
  · rw [partF_get f _ hx]
    by_cases e : y = x
    · subst e
      rw [List.getElem?_set_self (by rw [partF_len]; exact h)]
      simp
    · rw [List.getElem?_set_ne e, partF_get f _ hx]
      have : (x ∈ S ++ [y]) ↔ x ∈ S := by
        rw [List.mem_append, List.mem_singleton]
        exact ⟨fun h => h.elim id fun h => absurd h.symm e, .inl⟩
      by_cases hm : x ∈ S
      · rw [if_pos hm, if_pos (this.2 hm)]
      · rw [if_neg hm, if_neg fun h => hm (this.1 h)]
  · rw [List.getElem?_eq_none (by rw [List.length_set, partF_len]; omega), List.getElem?_eq_none (by rw [partF_len]; omega)]
theorem partF_nil (f : Nat → Nat) (k : Nat) : partF f [] k = List.range k := by
  unfold partF
  simp
theorem CycTo.part {f : Nat → Nat} {n : Nat} (hp : InjOn f n) (hb : ∀ x, x < n → f x < n) {cs : List (List Nat)} (h : CycTo f n cs) {p : List Int} (hf : IsFn p n f) : (partF f cs.flatten n).map (fun (x : Nat) => (x : Int)) = p := by
  have ci := h.inv hp hb (Nat.le_refl _)
  refine fn_eq (n := n) (f := f) (g := f) ⟨by rw [List.length_map, partF_len], fun i hi => ?_⟩ hf fun _ _ => rfl
  rw [List.getElem?_map, partF_get f _ hi, Option.map_some]
  by_cases hm : i ∈ cs.flatten
  · rw [if_pos hm]
  · rw [if_neg hm, (ci.met i hi).resolve_right hm]
theorem flat_take {cs : List (List Nat)} {i : Nat} {c : List Nat} (h : cs[i]? = some c) : (cs.take (i + 1)).flatten = (cs.take i).flatten ++ c := by
  rw [List.take_add_one, h]
  simp
end Go.Sh.Of

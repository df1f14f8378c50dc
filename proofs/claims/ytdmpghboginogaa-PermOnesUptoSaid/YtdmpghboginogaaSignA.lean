/- The sign of a list of points: pairs that stand the other way round, and cycles. Plain words. -/
import Derived.Test.YtdmpghboginogaaPermI
set_option linter.unusedVariables false
set_option linter.unusedSimpArgs false
namespace Go.Sh.Of
open Go

/-- Is the number of k < n with p k above x odd? -/
def cntP (p : Nat → Nat) (x : Nat) : Nat → Bool
  | 0 => false
  | k + 1 => xor (cntP p x k) (decide (x < p k))
/-- Is the number of pairs that stand the other way round odd? -/
def odd (p : Nat → Nat) : Nat → Bool
  | 0 => false
  | n + 1 => xor (odd p n) (cntP p (p n) n)
/-- Two places change. -/
def sw (p : Nat → Nat) (i j : Nat) : Nat → Nat := fun x => if x = i then p j else if x = j then p i else p x
theorem sw_left (p : Nat → Nat) (i j : Nat) : sw p i j i = p j := by simp [sw]
theorem sw_right (p : Nat → Nat) (i j : Nat) : sw p i j j = p i := by
  by_cases h : j = i
  · subst h; simp [sw]
  · simp [sw, h]
theorem sw_else (p : Nat → Nat) {i j x : Nat} (h1 : x ≠ i) (h2 : x ≠ j) : sw p i j x = p x := by simp [sw, h1, h2]
theorem sw_symm (p : Nat → Nat) (i j : Nat) : sw p i j = sw p j i := funext fun x => by
  by_cases h1 : x = i
  · subst h1; rw [sw_left, sw_right]
  · by_cases h2 : x = j
    · subst h2; rw [sw_right, sw_left]
    · rw [sw_else p h1 h2, sw_else p h2 h1]
theorem cnt_congr {p q : Nat → Nat} {x : Nat} : ∀ {n : Nat}, (∀ k, k < n → p k = q k) → cntP p x n = cntP q x n
  | 0, _ => rfl
  | n + 1, h => by rw [cntP, cntP, cnt_congr (n := n) fun k hk => h k (by omega), h n (by omega)]
theorem odd_congr {p q : Nat → Nat} : ∀ {n : Nat}, (∀ k, k < n → p k = q k) → odd p n = odd q n
  | 0, _ => rfl
  | n + 1, h => by rw [odd, odd, odd_congr (n := n) fun k hk => h k (by omega), h n (by omega), cnt_congr fun k hk => h k (by omega)]
theorem cnt_sw {p : Nat → Nat} {i x : Nat} : ∀ (d : Nat), cntP (sw p i (i + 1)) x (i + 2 + d) = cntP p x (i + 2 + d)
  | 0 => by
    show cntP (sw p i (i + 1)) x (i + 1 + 1) = cntP p x (i + 1 + 1)
    rw [cntP, cntP, cntP, cntP, sw_left, sw_right, cnt_congr (p := sw p i (i + 1)) (q := p) fun k hk => sw_else p (by omega) (by omega)]
    cases cntP p x i <;> cases decide (x < p i) <;> cases decide (x < p (i + 1)) <;> rfl
  | d + 1 => by
    show cntP (sw p i (i + 1)) x (i + 2 + d + 1) = cntP p x (i + 2 + d + 1)
    rw [cntP, cntP, cnt_sw d, sw_else p (by omega) (by omega)]
theorem odd_adj {p : Nat → Nat} {i : Nat} (h : p i ≠ p (i + 1)) : ∀ (d : Nat), odd (sw p i (i + 1)) (i + 2 + d) = !odd p (i + 2 + d)
  | 0 => by
    show odd (sw p i (i + 1)) (i + 1 + 1) = !odd p (i + 1 + 1)
    have e : ∀ x, cntP (sw p i (i + 1)) x i = cntP p x i := fun x => cnt_congr fun k hk => sw_else p (by omega) (by omega)
    rw [odd, odd, odd, odd, sw_left, sw_right, odd_congr (p := sw p i (i + 1)) (q := p) fun k hk => sw_else p (by omega) (by omega), cntP, cntP, e, e, sw_left]
    have h2 : decide (p i < p (i + 1)) = !decide (p (i + 1) < p i) := by
      by_cases h3 : p i < p (i + 1)
      · rw [decide_eq_true h3, decide_eq_false (by omega)]; rfl
      · rw [decide_eq_false h3, decide_eq_true (by omega)]; rfl
    rw [h2]
    cases odd p i <;> cases cntP p (p i) i <;> cases cntP p (p (i + 1)) i <;> cases decide (p (i + 1) < p i) <;> rfl
  | d + 1 => by
    show odd (sw p i (i + 1)) (i + 2 + d + 1) = !odd p (i + 2 + d + 1)
    rw [odd, odd, odd_adj h d, cnt_sw d, sw_else p (by omega) (by omega)]
    cases odd p (i + 2 + d) <;> cases cntP p (p (i + 2 + d)) (i + 2 + d) <;> rfl
/-- No two of the first n points have one image. -/
def InjOn (p : Nat → Nat) (n : Nat) : Prop := ∀ a b, a < n → b < n → p a = p b → a = b
theorem InjOn.sw {p : Nat → Nat} {n i j : Nat} (h : InjOn p n) (hi : i < n) (hj : j < n) : InjOn (sw p i j) n := fun a b ha hb e => by
  have key : ∀ a, a < n → ∃ a', a' < n ∧ Go.Sh.Of.sw p i j a = p a' ∧ (a = i → a' = j) ∧ (a = j → a' = i) ∧ (a ≠ i → a ≠ j → a' = a) := fun a ha => by
    by_cases h1 : a = i
    · exact ⟨j, hj, by rw [h1, sw_left], fun _ => rfl, fun h2 => by omega, fun h2 => absurd h1 h2⟩
    · by_cases h2 : a = j
      · exact ⟨i, hi, by rw [h2, sw_right], fun h => absurd h h1, fun _ => rfl, fun _ h => absurd h2 h⟩
      · exact ⟨a, ha, sw_else p h1 h2, fun h => absurd h h1, fun h => absurd h h2, fun _ _ => rfl⟩
  obtain ⟨a', a1, a2, a3, a4, a5⟩ := key a ha
  obtain ⟨b', b1, b2, b3, b4, b5⟩ := key b hb
  have := h a' b' a1 b1 (by rw [← a2, ← b2]; exact e)
  subst this
  by_cases c1 : a = i
  · have := a3 c1
    by_cases c2 : b = i
    · omega
    · by_cases c3 : b = j
      · have := b4 c3; omega
      · have := b5 c2 c3; omega
  · by_cases c2 : a = j
    · have := a4 c2
      by_cases c3 : b = i
      · have := b3 c3; omega
      · by_cases c4 : b = j
        · omega
        · have := b5 c3 c4; omega
    · have := a5 c1 c2
      by_cases c3 : b = i
      · have := b3 c3; omega
      · by_cases c4 : b = j
        · have := b4 c4; omega
        · have := b5 c3 c4; omega
theorem odd_far : ∀ (d : Nat) {p : Nat → Nat} {n i : Nat}, InjOn p n → i + 1 + d < n → odd (sw p i (i + 1 + d)) n = !odd p n
  | 0, p, n, i, h, hn => by
    obtain ⟨m, rfl⟩ : ∃ m, n = i + 2 + m := ⟨n - (i + 2), by omega⟩
    exact odd_adj (fun e => by have := h i (i + 1) (by omega) (by omega) e; omega) m
  | d + 1, p, n, i, h, hn => by
    have hne : ∀ {q : Nat → Nat}, InjOn q n → q i ≠ q (i + 1) := fun hq e => by have := hq i (i + 1) (by omega) (by omega) e; omega
    obtain ⟨m, hm⟩ : ∃ m, n = i + 2 + m := ⟨n - (i + 2), by omega⟩
    have h1 : InjOn (sw p i (i + 1)) n := h.sw (by omega) (by omega)
    have h2 : InjOn (sw (sw p i (i + 1)) (i + 1) (i + 1 + (d + 1))) n := h1.sw (by omega) (by omega)
    have e1 : odd (sw p i (i + 1)) n = !odd p n := by rw [hm]; exact odd_adj (hne h) m
    have e2 : odd (sw (sw p i (i + 1)) (i + 1) (i + 1 + (d + 1))) n = !odd (sw p i (i + 1)) n := by
      rw [show i + 1 + (d + 1) = i + 1 + 1 + d by omega]
      exact odd_far d h1 (by omega)
    have e3 : odd (sw (sw (sw p i (i + 1)) (i + 1) (i + 1 + (d + 1))) i (i + 1)) n = !odd (sw (sw p i (i + 1)) (i + 1) (i + 1 + (d + 1))) n := by
      conv => lhs; rw [hm]
      conv => rhs; rw [hm]
      exact odd_adj (hne h2) m
    have e4 : ∀ x, sw p i (i + 1 + (d + 1)) x = sw (sw (sw p i (i + 1)) (i + 1) (i + 1 + (d + 1))) i (i + 1) x := fun x => by
      by_cases c1 : x = i
      · subst c1
        rw [sw_left, sw_left, sw_left, sw_else p (by omega) (by omega)]
      · by_cases c2 : x = i + 1
        · subst c2
          rw [sw_right, sw_else _ (by omega) (by omega), sw_else _ (by omega) (by omega), sw_left]
        · rw [sw_else _ c1 c2]
          by_cases c3 : x = i + 1 + (d + 1)
          · subst c3
            rw [sw_right, sw_right, sw_right]
          · rw [sw_else _ c1 c3, sw_else _ c2 c3, sw_else _ c1 c2]
    rw [odd_congr fun k _ => e4 k, e3, e2, e1]
    cases odd p n <;> rfl
theorem odd_sw {p : Nat → Nat} {n i j : Nat} (h : InjOn p n) (hi : i < n) (hj : j < n) (hne : i ≠ j) : odd (sw p i j) n = !odd p n := by
  by_cases hlt : i < j
  · obtain ⟨d, rfl⟩ : ∃ d, j = i + 1 + d := ⟨j - (i + 1), by omega⟩
    exact odd_far d h hj
  · obtain ⟨d, rfl⟩ : ∃ d, i = j + 1 + d := ⟨i - (j + 1), by omega⟩
    rw [sw_symm]
    exact odd_far d h hi
theorem cnt_id {p : Nat → Nat} {x : Nat} : ∀ {n : Nat}, (∀ k, k < n → p k = k) → n ≤ x → cntP p x n = false
  | 0, _, _ => rfl
  | n + 1, h, hx => by rw [cntP, cnt_id (fun k hk => h k (by omega)) (by omega), h n (by omega), decide_eq_false (by omega)]; rfl
theorem odd_id {p : Nat → Nat} : ∀ {n : Nat}, (∀ k, k < n → p k = k) → odd p n = false
  | 0, _ => rfl
  | n + 1, h => by rw [odd, odd_id (fun k hk => h k (by omega)), cnt_id (fun k hk => h k (by omega)) (by rw [h n (by omega)]; omega)]; rfl
theorem surj {p : Nat → Nat} {n : Nat} (h : InjOn p n) (hb : ∀ x, x < n → p x < n) {m : Nat} (hm : m < n) : ∃ j, j < n ∧ p j = m := by
  have h1 : ((List.range n).map p).Nodup := by
    unfold List.Nodup
    rw [List.pairwise_map]
    refine List.Pairwise.imp_of_mem ?_ List.nodup_range
    intro a b ha hb' hab e
    exact hab (h a b (List.mem_range.1 ha) (List.mem_range.1 hb') e)
  have h2 := sub_all (A := (List.range n).map p) (B := List.range n) h1 (fun x hx => by
    obtain ⟨y, hy, rfl⟩ := List.mem_map.1 hx
    exact List.mem_range.2 (hb y (List.mem_range.1 hy))) (by simp) (List.mem_range.2 hm)
  obtain ⟨j, hj, e⟩ := List.mem_map.1 h2
  exact ⟨j, List.mem_range.1 hj, e⟩
theorem odd_mul_go {q : Nat → Nat} {n : Nat} (hq : InjOn q n) : ∀ (m : Nat) (p : Nat → Nat), InjOn p n → (∀ x, x < n → p x < n) → (∀ x, m ≤ x → x < n → p x = x) → odd (fun x => q (p x)) n = xor (odd p n) (odd q n)
  | 0, p, h, hb, hm => by
    rw [odd_congr (p := fun x => q (p x)) (q := q) fun k hk => by rw [hm k (by omega) hk], odd_id fun k hk => hm k (by omega) hk]
    cases odd q n <;> rfl
  | m + 1, p, h, hb, hm => by
    by_cases hmn : m < n
    · obtain ⟨j, hj, e⟩ := surj h hb hmn
      have hjm : j ≤ m := Decidable.byContradiction fun hn => by
        have := hm j (by omega) hj
        omega
      by_cases hjm' : j = m
      · subst hjm'
        exact odd_mul_go hq j p h hb fun x hx hxn => by
          by_cases hxj : x = j
          · rw [hxj]; exact e
          · exact hm x (by omega) hxn
      · have h1 := odd_mul_go hq m (sw p j m) (h.sw hj hmn) (fun x hx => by
          by_cases c1 : x = j
          · subst c1; rw [sw_left]; exact hb m hmn
          · by_cases c2 : x = m
            · subst c2; rw [sw_right]; exact hb j hj
            · rw [sw_else p c1 c2]; exact hb x hx) (fun x hx hxn => by
          by_cases c2 : x = m
          · subst c2; rw [sw_right]; exact e
          · rw [sw_else p (by omega) c2]; exact hm x (by omega) hxn)
        have h2 := odd_sw h hj hmn hjm'
        have h3 : InjOn (fun x => q (p x)) n := fun a b ha hb' e' => h a b ha hb' (hq _ _ (hb a ha) (hb b hb') e')
        have h4 := odd_sw h3 hj hmn hjm'
        have h5 : ∀ x, sw (fun x => q (p x)) j m x = q (sw p j m x) := fun x => by
          by_cases c1 : x = j
          · subst c1; rw [sw_left, sw_left]
          · by_cases c2 : x = m
            · subst c2; rw [sw_right, sw_right]
            · rw [sw_else _ c1 c2, sw_else _ c1 c2]
        rw [odd_congr fun k _ => h5 k] at h4
        rw [h4, h2] at h1
        revert h1
        cases odd (fun x => q (p x)) n <;> cases odd p n <;> cases odd q n <;> decide
    · exact odd_mul_go hq m p h hb fun x hx hxn => by omega
/-- THE SIGN OF A PRODUCT. -/
theorem odd_mul {p q : Nat → Nat} {n : Nat} (hp : InjOn p n) (hb : ∀ x, x < n → p x < n) (hq : InjOn q n) : odd (fun x => q (p x)) n = xor (odd p n) (odd q n) := odd_mul_go hq n p hp hb fun x h1 h2 => by omega
/-! ### Cycles -/
/-- From each to the next. -/
def Path (p : Nat → Nat) (l : List Nat) : Prop := ∀ (j : Nat) x y, l[j]? = some x → l[j + 1]? = some y → p x = y
theorem Path.snoc {p : Nat → Nat} {c : List Nat} {k : Nat} (h : Path p (c ++ [k])) : Path p (c ++ [k] ++ [p k]) := fun j x y hx hy => by
  by_cases hj : j + 1 < (c ++ [k]).length
  · rw [List.getElem?_append_left (by omega)] at hx
    rw [List.getElem?_append_left hj] at hy
    exact h j x y hx hy
  · have h1 := (List.getElem?_eq_some_iff.1 hy).1
    simp only [List.length_append, List.length_cons, List.length_nil] at h1 hj
    have hj' : j = c.length := by omega
    subst hj'
    simp at hx hy
    rw [← hx, ← hy]
theorem Path.tail {p : Nat → Nat} {a : Nat} {l : List Nat} (h : Path p (a :: l)) : Path p l := fun j x y hx hy => h (j + 1) x y (by simpa using hx) (by simpa using hy)
/-- Points that are let stand. -/
def clr (p : Nat → Nat) (s : List Nat) : Nat → Nat := fun x => if x ∈ s then x else p x
theorem clr_in (p : Nat → Nat) {s : List Nat} {x : Nat} (h : x ∈ s) : clr p s x = x := if_pos h
theorem clr_out (p : Nat → Nat) {s : List Nat} {x : Nat} (h : x ∉ s) : clr p s x = p x := if_neg h
/-- Is a number odd? -/
def isOdd (n : Nat) : Bool := n % 2 == 1
theorem isOdd_succ (n : Nat) : isOdd (n + 1) = !isOdd n := by
  unfold isOdd
  have := Nat.mod_two_eq_zero_or_one n
  rcases this with h | h
  · rw [h, show (n + 1) % 2 = 1 by omega]; rfl
  · rw [h, show (n + 1) % 2 = 0 by omega]; rfl
theorem isOdd_add (a : Nat) : ∀ b, isOdd (a + b) = xor (isOdd a) (isOdd b)
  | 0 => by cases h : isOdd a <;> simp [isOdd] at h ⊢ <;> omega
  | b + 1 => by
    rw [← Nat.add_assoc, isOdd_succ, isOdd_add a b, isOdd_succ]
    cases isOdd a <;> cases isOdd b <;> rfl
theorem odd_cyc : ∀ (l : List Nat) {w : Nat → Nat} {n a : Nat}, InjOn w n → a < n → (∀ x ∈ l, x < n) → (a :: l).Nodup → Path w (a :: l ++ [a]) → odd w n = xor (isOdd l.length) (odd (clr w (a :: l)) n)
  | [], w, n, a, h, ha, hl, hn, hp => by
    have e : w a = a := hp 0 a a rfl rfl
    rw [odd_congr (p := clr w [a]) (q := w) fun k hk => by
      by_cases c : k = a
      · rw [clr_in w (by simp [c]), c, e]
      · rw [clr_out w (by simpa using c)]]
    cases odd w n <;> rfl
  | b :: l, w, n, a, h, ha, hl, hn, hp => by
    have e : w a = b := hp 0 a b rfl rfl
    have hb : b < n := hl b (by simp)
    rw [List.nodup_cons, List.nodup_cons] at hn
    obtain ⟨n1, n2, n3⟩ := hn
    have hab : a ≠ b := fun c => n1 (by simp [c])
    have hal : a ∉ l := fun c => n1 (by simp [c])
    have hp2 : Path w (b :: l ++ [a]) := Path.tail hp
    have ih := odd_cyc l (w := sw w a b) (n := n) (a := a) (h.sw ha hb) ha (fun x hx => hl x (by simp [hx])) (List.nodup_cons.2 ⟨hal, n3⟩) (fun j x y hx hy => by
      cases j with
      | zero =>
        have hx' : a = x := by simpa using hx
        subst hx'
        rw [sw_left]
        exact hp2 0 b y rfl (by simpa using hy)
      | succ j =>
        have hj : j < l.length := by
          have h1 := (List.getElem?_eq_some_iff.1 hy).1
          simp only [List.length_append, List.length_cons, List.length_nil] at h1
          omega
        have hx' : l[j]? = some x := by
          have h2 : (l ++ [a])[j]? = some x := by simpa using hx
          rwa [List.getElem?_append_left hj] at h2
        have hxl := List.mem_of_getElem? hx'
        rw [sw_else w (fun (c : x = a) => hal (c ▸ hxl)) (fun (c : x = b) => n2 (c ▸ hxl))]
        exact hp2 (j + 1) x y (by simpa using hx) (by simpa using hy))
    have e2 := odd_sw h ha hb hab
    have e3 : ∀ k, clr (sw w a b) (a :: l) k = clr w (a :: b :: l) k := fun k => by
      by_cases c1 : k = a
      · rw [clr_in _ (by simp [c1]), clr_in _ (by simp [c1])]
      · by_cases c2 : k = b
        · subst c2
          rw [clr_out _ (by simp [c1, n2]), clr_in _ (by simp), sw_right, e]
        · by_cases c3 : k ∈ l
          · rw [clr_in _ (by simp [c3]), clr_in _ (by simp [c3])]
          · rw [clr_out _ (by simp [c1, c3]), clr_out _ (by simp [c1, c2, c3]), sw_else w c1 c2]
    rw [odd_congr fun k _ => e3 k, e2] at ih
    rw [List.length_cons, isOdd_succ]
    revert ih
    cases odd w n <;> cases isOdd l.length <;> cases odd (clr w (a :: b :: l)) n <;> decide
end Go.Sh.Of

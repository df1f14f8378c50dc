/- Cycles of a list of points: plain words. -/
import Derived.Test.YtdmpghboginogaaSignA
set_option linter.unusedVariables false
set_option linter.unusedSimpArgs false
namespace Go.Sh.Of
open Go

/-- A point's cycle. -/
def IsCyc (p : Nat → Nat) (i : Nat) (c : List Nat) : Prop := c[0]? = some i ∧ c.Nodup ∧ Path p (c ++ [i])
/-- The cycles of the points below i. -/
inductive CycTo (p : Nat → Nat) : Nat → List (List Nat) → Prop
  | zero : CycTo p 0 []
  | skip {i cs} : CycTo p i cs → (p i = i ∨ i ∈ cs.flatten) → CycTo p (i + 1) cs
  | add {i cs c} : CycTo p i cs → p i ≠ i → i ∉ cs.flatten → IsCyc p i c → CycTo p (i + 1) (cs ++ [c])
theorem IsCyc.next {p : Nat → Nat} {i : Nat} {c : List Nat} (h : IsCyc p i c) {j x : Nat} (hx : c[j]? = some x) : ∃ y, (c ++ [i])[j + 1]? = some y ∧ p x = y := by
  have hj := (List.getElem?_eq_some_iff.1 hx).1
  obtain ⟨y, hy⟩ : ∃ y, (c ++ [i])[j + 1]? = some y := ⟨_, List.getElem?_eq_getElem (by simp; omega)⟩
  exact ⟨y, hy, h.2.2 j x y (by rw [List.getElem?_append_left hj]; exact hx) hy⟩
theorem IsCyc.self {p : Nat → Nat} {i : Nat} {c : List Nat} (h : IsCyc p i c) : i ∈ c := List.mem_of_getElem? h.1
theorem IsCyc.fw {p : Nat → Nat} {i : Nat} {c : List Nat} (h : IsCyc p i c) {x : Nat} (hx : x ∈ c) : p x ∈ c := by
  obtain ⟨j, hj⟩ := List.getElem?_of_mem hx
  obtain ⟨y, hy, e⟩ := h.next hj
  rw [e]
  rcases List.mem_append.1 (List.mem_of_getElem? hy) with h1 | h1
  · exact h1
  · rw [List.mem_singleton.1 h1]; exact h.self
theorem IsCyc.lt {p : Nat → Nat} {n i : Nat} (hb : ∀ x, x < n → p x < n) (hi : i < n) {c : List Nat} (h : IsCyc p i c) : ∀ (j : Nat) x, c[j]? = some x → x < n
  | 0, x, hx => by rw [h.1] at hx; cases hx; exact hi
  | j + 1, x, hx => by
    have hj := (List.getElem?_eq_some_iff.1 hx).1
    obtain ⟨z, hz⟩ : ∃ z, c[j]? = some z := ⟨_, List.getElem?_eq_getElem (by omega)⟩
    obtain ⟨y, hy, e⟩ := h.next hz
    rw [List.getElem?_append_left hj, hx] at hy
    cases hy
    rw [← e]
    exact hb z (IsCyc.lt hb hi h j z hz)
theorem IsCyc.ltm {p : Nat → Nat} {n i : Nat} (hb : ∀ x, x < n → p x < n) (hi : i < n) {c : List Nat} (h : IsCyc p i c) {x : Nat} (hx : x ∈ c) : x < n := by
  obtain ⟨j, hj⟩ := List.getElem?_of_mem hx
  exact h.lt hb hi j x hj
theorem IsCyc.bk {p : Nat → Nat} {n i : Nat} (hp : InjOn p n) (hb : ∀ x, x < n → p x < n) (hi : i < n) {c : List Nat} (h : IsCyc p i c) {x : Nat} (hx : x < n) (hm : p x ∈ c) : x ∈ c := by
  obtain ⟨j, hj⟩ := List.getElem?_of_mem hm
  have hjl := (List.getElem?_eq_some_iff.1 hj).1
  cases j with
  | zero =>
    rw [h.1] at hj
    obtain ⟨z, hz⟩ : ∃ z, c[c.length - 1]? = some z := ⟨_, List.getElem?_eq_getElem (by omega)⟩
    obtain ⟨y, hy, e⟩ := h.next hz
    rw [show c.length - 1 + 1 = c.length by omega] at hy
    simp at hy
    have : x = z := hp x z hx (h.lt hb hi _ z hz) (by rw [e, ← hy]; exact (Option.some.inj hj).symm)
    rw [this]
    exact List.mem_of_getElem? hz
  | succ j =>
    obtain ⟨z, hz⟩ : ∃ z, c[j]? = some z := ⟨_, List.getElem?_eq_getElem (by omega)⟩
    obtain ⟨y, hy, e⟩ := h.next hz
    rw [List.getElem?_append_left hjl, hj] at hy
    have : x = z := hp x z hx (h.lt hb hi _ z hz) (by rw [e]; exact Option.some.inj hy)
    rw [this]
    exact List.mem_of_getElem? hz
/-- What holds when what is met is closed back: one point met, the first is met. -/
theorem IsCyc.first {p : Nat → Nat} {n i : Nat} (hb : ∀ x, x < n → p x < n) (hi : i < n) {c : List Nat} (h : IsCyc p i c) {F : List Nat} (hF : ∀ x, x < n → p x ∈ F → x ∈ F) : ∀ (j : Nat) x, c[j]? = some x → x ∈ F → i ∈ F
  | 0, x, hx, hm => by rw [h.1] at hx; cases hx; exact hm
  | j + 1, x, hx, hm => by
    have hj := (List.getElem?_eq_some_iff.1 hx).1
    obtain ⟨z, hz⟩ : ∃ z, c[j]? = some z := ⟨_, List.getElem?_eq_getElem (by omega)⟩
    obtain ⟨y, hy, e⟩ := h.next hz
    rw [List.getElem?_append_left hj, hx] at hy
    cases hy
    exact IsCyc.first hb hi h hF j z hz (hF z (h.lt hb hi j z hz) (by rw [e]; exact hm))
/-- The parity that cycles tell. -/
def parC : List (List Nat) → Bool
  | [] => false
  | c :: cs => xor (!isOdd c.length) (parC cs)
theorem parC_snoc (cs : List (List Nat)) (c : List Nat) : parC (cs ++ [c]) = xor (parC cs) (!isOdd c.length) := by
  induction cs with
  | nil => simp [parC]
  | cons d cs ih =>
    rw [List.cons_append, parC, parC, ih]
    cases isOdd d.length <;> cases isOdd c.length <;> cases parC cs <;> rfl
structure CInv (p : Nat → Nat) (n i : Nat) (cs : List (List Nat)) : Prop where
  nd : cs.flatten.Nodup
  lt : ∀ x ∈ cs.flatten, x < n
  fw : ∀ x ∈ cs.flatten, p x ∈ cs.flatten
  bk : ∀ x, x < n → p x ∈ cs.flatten → x ∈ cs.flatten
  met : ∀ x, x < i → p x = x ∨ x ∈ cs.flatten
  sg : odd p n = xor (parC cs) (odd (clr p cs.flatten) n)
theorem flat_snoc (cs : List (List Nat)) (c : List Nat) : (cs ++ [c]).flatten = cs.flatten ++ c := by simp
theorem clr_inj {p : Nat → Nat} {n : Nat} (hp : InjOn p n) {F : List Nat} (bk : ∀ x, x < n → p x ∈ F → x ∈ F) : InjOn (clr p F) n := fun a b ha hb e => by
  by_cases h1 : a ∈ F
  · by_cases h2 : b ∈ F
    · rwa [clr_in p h1, clr_in p h2] at e
    · rw [clr_in p h1, clr_out p h2] at e
      exact absurd (bk b hb (e ▸ h1)) h2
  · by_cases h2 : b ∈ F
    · rw [clr_out p h1, clr_in p h2] at e
      exact absurd (bk a ha (by rw [e]; exact h2)) h1
    · rw [clr_out p h1, clr_out p h2] at e
      exact hp a b ha hb e
theorem CycTo.inv {p : Nat → Nat} {n : Nat} (hp : InjOn p n) (hb : ∀ x, x < n → p x < n) {i : Nat} {cs : List (List Nat)} (h : CycTo p i cs) : i ≤ n → CInv p n i cs := by
  induction h with
  | zero =>
    intro _
    refine ⟨by simp, fun x hx => by simp at hx, fun x hx => by simp at hx, fun x _ hx => by simp at hx, fun x hx => by omega, ?_⟩
    have e : odd (clr p (List.flatten [])) n = odd p n := odd_congr fun k _ => clr_out p (by simp)
    rw [e]
    cases odd p n <;> rfl
  | @skip i cs _ hs ih =>
    intro hi
    have h1 := ih (by omega)
    exact ⟨h1.nd, h1.lt, h1.fw, h1.bk, fun x hx => by
      by_cases e : x = i
      · rw [e]; exact hs
      · exact h1.met x (by omega), h1.sg⟩
  | @add i cs c _ h2 h3 hc ih =>
    intro hi
    have h1 := ih (by omega)
    have hin : i < n := by omega
    have hapart : ∀ x ∈ c, x ∉ cs.flatten := fun x hx hm => by
      obtain ⟨j, hj⟩ := List.getElem?_of_mem hx
      exact h3 (hc.first hb hin h1.bk j x hj hm)
    refine ⟨?_, fun x hx => ?_, fun x hx => ?_, fun x hx hm => ?_, fun x hx => ?_, ?_⟩
    · rw [flat_snoc, List.nodup_append]
      exact ⟨h1.nd, hc.2.1, fun a ha b hb' e => hapart b hb' (e ▸ ha)⟩
    · rw [flat_snoc, List.mem_append] at hx
      rcases hx with hx | hx
      · exact h1.lt x hx
      · exact hc.ltm hb hin hx
    · rw [flat_snoc, List.mem_append] at hx ⊢
      rcases hx with hx | hx
      · exact .inl (h1.fw x hx)
      · exact .inr (hc.fw hx)
    · rw [flat_snoc, List.mem_append] at hm ⊢
      rcases hm with hm | hm
      · exact .inl (h1.bk x hx hm)
      · exact .inr (hc.bk hp hb hin hx hm)
    · rw [flat_snoc, List.mem_append]
      by_cases e : x = i
      · rw [e]; exact .inr (.inr hc.self)
      · rcases h1.met x (by omega) with h | h
        · exact .inl h
        · exact .inr (.inl h)
    · obtain ⟨l, rfl⟩ : ∃ l, c = i :: l := by
        cases c with
        | nil => exact absurd hc.1 (by simp)
        | cons a l => exact ⟨l, by have := hc.1; simp at this; rw [this]⟩
      have h4 := odd_cyc l (w := clr p cs.flatten) (n := n) (a := i) (clr_inj hp h1.bk) hin (fun x hx => hc.ltm hb hin (by simp [hx])) hc.2.1 (fun j x y hx hy => by
        have hxm : x ∈ i :: l ++ [i] := List.mem_of_getElem? hx
        have hxn : x ∉ cs.flatten := by
          rcases List.mem_append.1 hxm with h | h
          · exact hapart x h
          · rw [List.mem_singleton.1 h]; exact h3
        rw [clr_out p hxn]
        exact hc.2.2 j x y hx hy)
      have e : ∀ x, clr (clr p cs.flatten) (i :: l) x = clr p ((cs ++ [i :: l]).flatten) x := fun x => by
        rw [flat_snoc]
        by_cases c1 : x ∈ i :: l
        · rw [clr_in _ c1, clr_in _ (List.mem_append.2 (.inr c1))]
        · rw [clr_out _ c1]
          by_cases c2 : x ∈ cs.flatten
          · rw [clr_in _ c2, clr_in _ (List.mem_append.2 (.inl c2))]
          · rw [clr_out _ c2, clr_out _ fun h => (List.mem_append.1 h).elim c2 c1]
      rw [h1.sg, h4, odd_congr fun x _ => e x, parC_snoc, List.length_cons, isOdd_succ]
      cases parC cs <;> cases isOdd l.length <;> cases odd (clr p ((cs ++ [i :: l]).flatten)) n <;> rfl
/-- CYCLES TELL THE SIGN. -/
theorem CycTo.sign {p : Nat → Nat} {n : Nat} (hp : InjOn p n) (hb : ∀ x, x < n → p x < n) {cs : List (List Nat)} (h : CycTo p n cs) : odd p n = parC cs := by
  have h1 := h.inv hp hb (Nat.le_refl n)
  rw [h1.sg, odd_id (p := clr p cs.flatten) fun x hx => by
    by_cases c : x ∈ cs.flatten
    · exact clr_in p c
    · rw [clr_out p c]; exact (h1.met x hx).resolve_right c]
  cases parC cs <;> rfl
/-! ### Lists as functions -/
def fnI (l : List Int) (i : Nat) : Nat := (l.getD i 0).toNat
def IsFn (l : List Int) (n : Nat) (f : Nat → Nat) : Prop := l.length = n ∧ ∀ i, i < n → l[i]? = some (f i : Int)
theorem ck_fn {l : List Int} (h : ckE l = 0) : IsFn l l.length (fnI l) ∧ InjOn (fnI l) l.length ∧ ∀ x, x < l.length → fnI l x < l.length := by
  have key : ∀ i, i < l.length → l[i]? = some (fnI l i : Int) ∧ fnI l i < l.length := fun i hi => by
    obtain ⟨x, hx⟩ : ∃ x, l[i]? = some x := ⟨_, List.getElem?_eq_getElem hi⟩
    obtain ⟨x0, x1⟩ := ck_mem h x (List.mem_of_getElem? hx)
    have e : fnI l i = x.toNat := by simp [fnI, List.getD, hx]
    rw [e, Int.toNat_of_nonneg x0]
    exact ⟨hx, by omega⟩
  refine ⟨⟨rfl, fun i hi => (key i hi).1⟩, fun a b ha hb e => ?_, fun x hx => (key x hx).2⟩
  have h1 := (key a ha).1
  have h2 := (key b hb).1
  rw [← e] at h2
  exact ck_inj h a b _ h1 h2
theorem fn_ck {l : List Int} {n : Nat} {f : Nat → Nat} (h : IsFn l n f) (hn : n ≤ 64) (hi : InjOn f n) (hb : ∀ x, x < n → f x < n) : ckE l = 0 := by
  have key : ∀ (j : Nat) x, l[j]? = some x → j < n ∧ x = (f j : Int) := fun j x hx => by
    have hj : j < n := by have := (List.getElem?_eq_some_iff.1 hx).1; have := h.1; omega
    rw [h.2 j hj] at hx
    exact ⟨hj, (Option.some.inj hx).symm⟩
  refine ck_of (by rw [h.1]; exact hn) (fun i j x h1 h2 => ?_) fun x hx => ?_
  · obtain ⟨a1, a2⟩ := key i x h1
    obtain ⟨b1, b2⟩ := key j x h2
    exact hi i j a1 b1 (by omega)
  · obtain ⟨j, hj⟩ := List.getElem?_of_mem hx
    obtain ⟨a1, a2⟩ := key j x hj
    have := hb j a1
    rw [h.1]
    omega
theorem fn_eq {l m : List Int} {n : Nat} {f g : Nat → Nat} (h1 : IsFn l n f) (h2 : IsFn m n g) (he : ∀ i, i < n → f i = g i) : l = m := by
  apply List.ext_getElem?
  intro i
  by_cases hi : i < n
  · rw [h1.2 i hi, h2.2 i hi, he i hi]
  · rw [List.getElem?_eq_none (by rw [h1.1]; omega), List.getElem?_eq_none (by rw [h2.1]; omega)]
theorem fn_fnI {l : List Int} {n : Nat} {f : Nat → Nat} (h : IsFn l n f) {i : Nat} (hi : i < n) : fnI l i = f i := by simp [fnI, List.getD, h.2 i hi]
end Go.Sh.Of

/- Decimal texts as numbers: plain words. -/
import Derived.Test.YtcecdmacoklhpaaZintA
set_option linter.unusedVariables false
set_option linter.unusedSimpArgs false
namespace Go.Sh.Of
open Go

/-- A byte as a digit. -/
@[irreducible] def digV (c : UInt8) : Nat := c.toNat - 48
theorem digV_eq (c : UInt8) : digV c = c.toNat - 48 := by unfold digV; rfl
/-- What digits say, behind a. -/
def valS (a : Nat) : List UInt8 → Nat
  | [] => a
  | c :: s => valS (10 * a + digV c) s
theorem valS_cons (a : Nat) (c : UInt8) (s : List UInt8) : valS a (c :: s) = valS (10 * a + digV c) s := rfl
theorem valS_append (a : Nat) : ∀ (s t : List UInt8), valS a (s ++ t) = valS (valS a s) t
  | [], t => rfl
  | c :: s, t => by
    rw [List.cons_append, valS_cons, valS_cons]
    exact valS_append _ s t
theorem valS_ge (a : Nat) : ∀ (s : List UInt8), a * 10 ^ s.length ≤ valS a s
  | [] => by simp [valS]
  | c :: s => by
    rw [valS_cons, List.length_cons]
    refine Nat.le_trans ?_ (valS_ge _ s)
    rw [Nat.pow_succ, Nat.mul_comm (10 ^ s.length) 10, ← Nat.mul_assoc]
    exact Nat.mul_le_mul_right _ (by omega)
theorem valS_split (a : Nat) : ∀ (s : List UInt8), valS a s = a * 10 ^ s.length + valS 0 s
  | [] => by simp [valS]
  | c :: s => by
    rw [valS_cons, valS_cons, List.length_cons]
    rw [valS_split (10 * a + digV c) s, valS_split (10 * 0 + digV c) s, Nat.pow_succ, Nat.mul_comm (10 ^ s.length) 10, ← Nat.mul_assoc, Nat.add_mul, Nat.mul_zero, Nat.zero_add, Nat.mul_comm 10 a, Nat.add_assoc]
/-- A byte that is a digit. -/
def isDig (c : UInt8) : Bool := decide (48 ≤ c.toNat) && decide (c.toNat ≤ 57)
theorem isDig_iff {c : UInt8} : isDig c = true ↔ 48 ≤ c.toNat ∧ c.toNat ≤ 57 := by simp [isDig]
theorem valS_lt (s : List UInt8) (h : s.all isDig = true) : valS 0 s < 10 ^ s.length := by
  have key : ∀ (s : List UInt8), s.all isDig = true → ∀ a, valS a s < (a + 1) * 10 ^ s.length := by
    intro s
    induction s with
    | nil => intro _ a; simp [valS]
    | cons c s ih =>
      intro hs a
      rw [List.all_cons, Bool.and_eq_true] at hs
      have hc := isDig_iff.1 hs.1
      have hd := digV_eq c
      rw [valS_cons]
      refine Nat.lt_of_lt_of_le (ih hs.2 _) ?_
      rw [List.length_cons, Nat.pow_succ, Nat.mul_comm (10 ^ s.length) 10, ← Nat.mul_assoc]
      exact Nat.mul_le_mul_right _ (by omega)
  have := key s h 0
  omega
/-- Decimal digits, the first of several not 0. -/
def digitsB (s : List UInt8) : Bool := !s.isEmpty && (!(decide (1 < s.length) && s.head? == some 48) && s.all isDig)
theorem digitsB_big {s : List UInt8} (h : digitsB s = true) (hl : 1 < s.length) : 10 ^ (s.length - 1) ≤ valS 0 s := by
  cases s with
  | nil => simp at hl
  | cons c s =>
    simp only [digitsB, List.isEmpty_cons, Bool.not_false, Bool.true_and, Bool.and_eq_true, Bool.not_eq_true', List.all_cons, decide_eq_true hl, List.head?_cons] at h
    have hc := isDig_iff.1 h.2.1
    have hne : c ≠ 48 := fun e => by rw [e] at h; simp at h
    have : c.toNat ≠ 48 := fun e => hne (UInt8.toNat_inj.1 e)
    have hd := digV_eq c
    rw [valS_cons, List.length_cons, Nat.add_sub_cancel]
    refine Nat.le_trans ?_ (valS_ge _ s)
    have h1 : 1 ≤ 10 * 0 + digV c := by omega
    have := Nat.mul_le_mul_right (10 ^ s.length) h1
    omega
/-- The error of a text, and its number. -/
def errN (s : List UInt8) : Int := if digitsB s then (if valS 0 s < 2 ^ 4096 then 0 else 3) else 12
def numN (s : List UInt8) : Nat := if digitsB s && decide (valS 0 s < 2 ^ 4096) then valS 0 s else 0
theorem ten_mono (a b : Nat) (h : a ≤ b) : 10 ^ a ≤ 10 ^ b := Nat.pow_le_pow_right (by decide) h
theorem long_text {s : List UInt8} (h : digitsB s = true) (hl : 4096 < s.length) : ¬ valS 0 s < 2 ^ 4096 := by
  have h1 := digitsB_big h (by omega)
  have h2 := ten_mono 4096 (s.length - 1) (by omega)
  have h3 := two_ten 4096
  omega
theorem ten_pow : ∀ k : Nat, 2 ^ (33 * k) ≤ 10 ^ (10 * k)
  | k => by
    rw [Nat.pow_mul, Nat.pow_mul]
    exact Nat.pow_le_pow_left (by decide) k
theorem long_text2 {s : List UInt8} (h : digitsB s = true) (hl : 1300 < s.length) : ¬ valS 0 s < 2 ^ 4096 := by
  have h1 := digitsB_big h (by omega)
  have h2 := ten_mono (10 * 130) (s.length - 1) (by omega)
  have h3 := ten_pow 130
  have h4 := pow_mono2 4096 (33 * 130) (by decide)
  omega
/-- A whole number's text: its error, its number. -/
def bodyS (s : List UInt8) : List UInt8 := if s.head? = some 45 then s.drop 1 else s
def errS (s : List UInt8) : Int := if s = [45, 48] then 12 else errN (bodyS s)
def numS (s : List UInt8) : Int := if s = [45, 48] then 0 else sgn (decide (s.head? = some 45)) (numN (bodyS s))
theorem numN_lt (s : List UInt8) : numN s < 2 ^ 4096 := by
  unfold numN
  split
  · rename_i h
    rw [Bool.and_eq_true, decide_eq_true_eq] at h
    exact h.2
  · exact Nat.two_pow_pos 4096
theorem numS_lt (s : List UInt8) : (numS s).natAbs < 2 ^ 4096 := by
  unfold numS
  split
  · exact Nat.two_pow_pos 4096
  · rw [sgn_abs]; exact numN_lt _
end Go.Sh.Of

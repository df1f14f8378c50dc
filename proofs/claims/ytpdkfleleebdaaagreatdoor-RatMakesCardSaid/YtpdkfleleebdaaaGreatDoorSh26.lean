/- The machine over plain forms: a table of functions. -/
import Derived.Test.YtpdkfleleebdaaaGreatDoorSh25
set_option linter.unusedVariables false
namespace Go.Sh
open Go
abbrev Ent := Ops -> Nat -> CallC -> List SV -> Heap -> Rs
inductive BT (α : Type) where
 | nil
 | node (v : Option α) (l r : BT α)
def BT.get {α : Type} : BT α -> Nat -> Option α
 | .nil, _ => none
 | .node v l r, n => match n with
  | 0 => v
  | m + 1 => bif Nat.beq (m % 2) 0 then l.get (m / 2) else r.get (m / 2)
noncomputable def BT.getK {α R : Type} (t : BT α) : Nat -> (α -> Option R) -> Option R := BT.rec (motive := fun _ => Nat -> (α -> Option R) -> Option R) (fun _ _ => none)
 (fun v _ _ ihl ihr n k => Nat.rec (motive := fun _ => Option R) (Option.rec (motive := fun _ => Option R) none (fun x => k x) v)
  (fun m _ => Bool.rec (motive := fun _ => Option R) (ihr (Nat.div m 2) k) (ihl (Nat.div m 2) k) (Nat.beq (Nat.mod m 2) 0)) n) t
theorem BT.getK_eq {α R : Type} : ∀ (t : BT α) (n : Nat) (k : α -> Option R), t.getK n k = (t.get n).bind k
 | .nil, _, _ => rfl
 | .node v l r, 0, k => by cases v <;> rfl
 | .node v l r, m + 1, k => by
  have e : (BT.node v l r).getK (m + 1) k = bif Nat.beq (m % 2) 0 then l.getK (m / 2) k else r.getK (m / 2) k := by
   show Bool.rec (motive := fun _ => Option R) _ _ (Nat.beq (m % 2) 0) = _
   cases Nat.beq (m % 2) 0 <;> rfl
  rw [e]
  simp only [BT.get]
  cases Nat.beq (m % 2) 0 with
  | true => exact BT.getK_eq l _ k
  | false => exact BT.getK_eq r _ k
def BT.val {α : Type} : BT α -> Option α
 | .nil => none
 | .node v _ _ => v
def BT.left {α : Type} : BT α -> BT α
 | .nil => .nil
 | .node _ l _ => l
def BT.right {α : Type} : BT α -> BT α
 | .nil => .nil
 | .node _ _ r => r
def BT.setF {α : Type} (row : α) : Nat -> BT α -> Nat -> BT α
 | 0, t, _ => t
 | f + 1, t, n => match n with
  | 0 => .node (some row) t.left t.right
  | m + 1 => bif Nat.beq (m % 2) 0 then .node t.val (BT.setF row f t.left (m / 2)) t.right else .node t.val t.left (BT.setF row f t.right (m / 2))
section
variable {α : Type}
theorem BT.get_val (t : BT α) : t.get 0 = t.val := by cases t <;> rfl
theorem BT.get_left (t : BT α) (m : Nat) (h : Nat.beq (m % 2) 0 = true) : t.get (m + 1) = t.left.get (m / 2) := by
 cases t with
 | nil => rfl
 | node v l r => simp only [BT.get, BT.left, h, cond_true]
theorem BT.get_right (t : BT α) (m : Nat) (h : Nat.beq (m % 2) 0 = false) : t.get (m + 1) = t.right.get (m / 2) := by
 cases t with
 | nil => rfl
 | node v l r => simp only [BT.get, BT.right, h, cond_false]
theorem BT.get_set_self (row : α) : ∀ (f : Nat) (t : BT α) (n : Nat), n < f -> (BT.setF row f t n).get n = some row
 | 0, _, _, h => by omega
 | f + 1, t, 0, _ => rfl
 | f + 1, t, m + 1, h => by
  simp only [BT.setF]
  cases hb : Nat.beq (m % 2) 0 with
  | true => simp only [cond_true, BT.get, hb]; exact BT.get_set_self row f _ _ (by omega)
  | false => simp only [cond_false, BT.get, hb]; exact BT.get_set_self row f _ _ (by omega)
theorem BT.get_set_ne (row : α) : ∀ (f : Nat) (t : BT α) (n k : Nat), n ≠ k -> (BT.setF row f t n).get k = t.get k
 | 0, _, _, _, _ => rfl
 | f + 1, t, 0, 0, h => absurd rfl h
 | f + 1, t, 0, k + 1, _ => by
  simp only [BT.setF]
  cases hb : Nat.beq (k % 2) 0 with
  | true => rw [BT.get_left _ _ hb, BT.get_left _ _ hb]; rfl
  | false => rw [BT.get_right _ _ hb, BT.get_right _ _ hb]; rfl
 | f + 1, t, m + 1, 0, _ => by
  simp only [BT.setF]
  cases Nat.beq (m % 2) 0 with
  | true => rw [cond_true, BT.get_val t]; rfl
  | false => rw [cond_false, BT.get_val t]; rfl
 | f + 1, t, m + 1, k + 1, h => by
  simp only [BT.setF]
  cases hm : Nat.beq (m % 2) 0 with
  | true =>
   rw [cond_true]
   cases hk : Nat.beq (k % 2) 0 with
   | true =>
    rw [BT.get_left _ _ hk, BT.get_left _ _ hk]
    have e1 := Nat.eq_of_beq_eq_true hm
    have e2 := Nat.eq_of_beq_eq_true hk
    exact BT.get_set_ne row f _ _ _ (by omega)
   | false => rw [BT.get_right _ _ hk, BT.get_right _ _ hk]; rfl
  | false =>
   rw [cond_false]
   cases hk : Nat.beq (k % 2) 0 with
   | true => rw [BT.get_left _ _ hk, BT.get_left _ _ hk]; rfl
   | false =>
    rw [BT.get_right _ _ hk, BT.get_right _ _ hk]
    have e1 : m % 2 ≠ 0 := fun e => by rw [e] at hm; cases hm
    have e2 : k % 2 ≠ 0 := fun e => by rw [e] at hk; cases hk
    exact BT.get_set_ne row f _ _ _ (by omega)
end
def EntOk (cf : Fn) (e : Ent) : Prop := ∀ K C xs H, (bif Nat.beq xs.length cf.nparams then runFn2 cf K C xs H else none) = e slow K C xs H
def ent0 (f : Ops -> Nat -> CallC -> Heap -> Rs) : Ent := fun o K C args H => match args with | [] => f o K C H | _ => none
theorem EntOk.of0 {b : CC} {nt : Nat} {rs : List Res} {f : Ops -> Nat -> CallC -> Heap -> Rs} (h : ∀ K C H, runFn2 ⟨0, nt, rs, b⟩ K C [] H = f slow K C H) : EntOk ⟨0, nt, rs, b⟩ (ent0 f) := fun K C xs H =>
 match xs with
 | [] => h K C H
 | _ :: _ => rfl
def ent1 (f : Ops -> Nat -> CallC -> SV -> Heap -> Rs) : Ent := fun o K C args H => match args with | [a0] => f o K C a0 H | _ => none
theorem EntOk.of1 {b : CC} {nt : Nat} {rs : List Res} {f : Ops -> Nat -> CallC -> SV -> Heap -> Rs} (h : ∀ K C (a0 : SV) H, runFn2 ⟨1, nt, rs, b⟩ K C [a0] H = f slow K C a0 H) : EntOk ⟨1, nt, rs, b⟩ (ent1 f) := fun K C xs H =>
 match xs with
 | [] => rfl
 | [a0] => h K C a0 H
 | a0 :: _ :: _ => rfl
def ent2 (f : Ops -> Nat -> CallC -> SV -> SV -> Heap -> Rs) : Ent := fun o K C args H => match args with | [a0, a1] => f o K C a0 a1 H | _ => none
theorem EntOk.of2 {b : CC} {nt : Nat} {rs : List Res} {f : Ops -> Nat -> CallC -> SV -> SV -> Heap -> Rs} (h : ∀ K C (a0 a1 : SV) H, runFn2 ⟨2, nt, rs, b⟩ K C [a0, a1] H = f slow K C a0 a1 H) : EntOk ⟨2, nt, rs, b⟩ (ent2 f) := fun K C xs H =>
 match xs with
 | [] => rfl
 | [a0] => rfl
 | [a0, a1] => h K C a0 a1 H
 | a0 :: a1 :: _ :: _ => rfl
def ent3 (f : Ops -> Nat -> CallC -> SV -> SV -> SV -> Heap -> Rs) : Ent := fun o K C args H => match args with | [a0, a1, a2] => f o K C a0 a1 a2 H | _ => none
theorem EntOk.of3 {b : CC} {nt : Nat} {rs : List Res} {f : Ops -> Nat -> CallC -> SV -> SV -> SV -> Heap -> Rs} (h : ∀ K C (a0 a1 a2 : SV) H, runFn2 ⟨3, nt, rs, b⟩ K C [a0, a1, a2] H = f slow K C a0 a1 a2 H) : EntOk ⟨3, nt, rs, b⟩ (ent3 f) := fun K C xs H =>
 match xs with
 | [] => rfl
 | [a0] => rfl
 | [a0, a1] => rfl
 | [a0, a1, a2] => h K C a0 a1 a2 H
 | a0 :: a1 :: a2 :: _ :: _ => rfl
def ent4 (f : Ops -> Nat -> CallC -> SV -> SV -> SV -> SV -> Heap -> Rs) : Ent := fun o K C args H => match args with | [a0, a1, a2, a3] => f o K C a0 a1 a2 a3 H | _ => none
theorem EntOk.of4 {b : CC} {nt : Nat} {rs : List Res} {f : Ops -> Nat -> CallC -> SV -> SV -> SV -> SV -> Heap -> Rs} (h : ∀ K C (a0 a1 a2 a3 : SV) H, runFn2 ⟨4, nt, rs, b⟩ K C [a0, a1, a2, a3] H = f slow K C a0 a1 a2 a3 H) : EntOk ⟨4, nt, rs, b⟩ (ent4 f) := fun K C xs H =>
 match xs with
 | [] => rfl
 | [a0] => rfl
 | [a0, a1] => rfl
 | [a0, a1, a2] => rfl
 | [a0, a1, a2, a3] => h K C a0 a1 a2 a3 H
 | a0 :: a1 :: a2 :: a3 :: _ :: _ => rfl
abbrev EL := List (Nat × Fn × Ent)
def tabOf : EL -> BT Ent
 | [] => .nil
 | (i, _, e) :: l => (tabOf l).setF e (i + 1) i
def fnsOf : EL -> List (Nat × Fn)
 | [] => []
 | (i, cf, _) :: l => (i, cf) :: fnsOf l
def AllOk : EL -> Prop
 | [] => True
 | (_, cf, e) :: l => EntOk cf e /\ AllOk l
theorem tab_same : ∀ {l : EL}, AllOk l -> ∀ g, (assoc (fnsOf l) g = none /\ (tabOf l).get g = none) \/ ∃ cf e, assoc (fnsOf l) g = some cf /\ (tabOf l).get g = some e /\ EntOk cf e
 | [], _, g => .inl ⟨rfl, rfl⟩
 | (i, cf, e) :: l, h, g => by
  by_cases hg : i = g
  ·subst hg
   refine .inr ⟨cf, e, ?_, BT.get_set_self e _ _ _ (Nat.lt_succ_self _), h.1⟩
   simp only [fnsOf, assoc, Nat.beq_refl, cond_true]
  ·have hb : Nat.beq i g = false := by
    cases hc : Nat.beq i g with
    | false => rfl
    | true => exact absurd (Nat.eq_of_beq_eq_true hc) hg
   have e1 : assoc (fnsOf ((i, cf, e) :: l)) g = assoc (fnsOf l) g := by simp only [fnsOf, assoc, hb, cond_false]
   have e2 : (tabOf ((i, cf, e) :: l)).get g = (tabOf l).get g := BT.get_set_ne e _ _ _ _ hg
   rw [e1, e2]
   exact tab_same h.2 g
end Go.Sh

/- Operations that touch no memory: what the model does is what the shadow machine does. -/
import Derived.Test.YtpdkfleleebdaaaGreatDoorSh3
import Derived.Laws.Strings
import Derived.Laws.Cover1
set_option linter.unusedVariables false
set_option linter.unusedSimpArgs false
namespace Go.Sh
open Go
def VR (ρ : Place) (n : Nat) (sv : SV) (v : Value) : Prop := sv = .junk \/ (okSV ρ n sv /\ v = conc ρ sv)
theorem VR.of {ρ : Place} {n : Nat} {sv : SV} (h : okSV ρ n sv) : VR ρ n sv (conc ρ sv) := .inr ⟨h, rfl⟩
theorem VR.ne {ρ : Place} {n : Nat} {sv : SV} {v : Value} (h : VR ρ n sv v) (hj : sv ≠ .junk) : okSV ρ n sv /\ v = conc ρ sv := h.resolve_left hj
theorem kindEq_eq {k k' : IntKind} (h : kindEq k k' = true) : k = k' := by cases k <;> cases k' <;> simp_all [kindEq]
theorem svCell_ok {v : Value} {sv : SV} (ρ : Place) (n : Nat) (h : svCell v = some sv) : okSV ρ n sv /\ conc ρ sv = v /\ sv.flat = true := by
 cases v with
 | bool b => simp only [svCell, Option.some.injEq] at h; subst h; simp [okSV, conc, SV.flat]
 | int k m => simp only [svCell, Option.some.injEq] at h; subst h; simp [okSV, conc, SV.flat]
 | string s => simp only [svCell, Option.some.injEq] at h; subst h; simp [okSV, conc, SV.flat]
 | pointer a => cases a <;> simp [svCell] at h; subst h; simp [okSV, conc, SV.flat]
 | slice a l c =>
  cases a with
  | some a => simp [svCell] at h
  | none => cases l <;> cases c <;> simp [svCell] at h; subst h; simp [okSV, conc, nilSl, capC, SV.flat]
 | nilFunc => simp only [svCell, Option.some.injEq] at h; subst h; simp [okSV, conc, SV.flat]
 | _ => simp [svCell] at h
theorem svCells_ok (ρ : Place) (n : Nat) : ∀ (l : List Value) (svs : List SV), svCells l = some svs -> okL ρ n svs /\ svs.map (conc ρ) = l /\ svs.all SV.flat = true
 | [], svs, h => by simp [svCells] at h; subst h; simp [okL]
 | v :: l, svs, h => by
  simp only [svCells, Option.bind_eq_some_iff, Option.map_eq_some_iff] at h
  obtain ⟨x, hx, l', hl', rfl⟩ := h
  obtain ⟨h1, h2, h3⟩ := svCell_ok ρ n hx
  obtain ⟨k1, k2, k3⟩ := svCells_ok ρ n l l' hl'
  refine ⟨⟨h1, k1⟩, by simp [h2, k2], ?_⟩
  simp only [List.all_cons, h3, k3, Bool.and_self]
theorem svOf_ok {v : Value} {sv : SV} (ρ : Place) (n : Nat) (h : svOf v = some sv) : okSV ρ n sv /\ conc ρ sv = v := by
 unfold svOf at h
 split at h
 ·rename_i cs
  simp only [Option.map_eq_some_iff] at h
  obtain ⟨l, hl, rfl⟩ := h
  obtain ⟨k1, k2, k3⟩ := svCells_ok ρ n _ _ hl
  refine ⟨⟨k1, k3⟩, ?_⟩
  simp [conc, concL_eq, k2]
 ·exact ⟨(svCell_ok ρ n h).1, (svCell_ok ρ n h).2.1⟩
section
variable {P : Program} {w : World} {ρ : Place} {n : Nat}
theorem bitsOp_ok {op : BinOp} {k : IntKind} {a b : Int} {z : SV} (h : bitsOp op k a b = some z) :
  (Op.intBits op k a b).run P w = .ok (conc ρ z) w /\ okSV ρ n z := by
 cases op <;> simp [bitsOp, wrapB] at h <;> subst h <;> simp [Op.intBits, conc, okSV]
theorem binOp_ok {op : BinOp} {x y z : SV} (t : TypeId) (h : binOp op x y = some z) :
    (Go.binOp op t (conc ρ x) (conc ρ y)).run P w = .ok (conc ρ z) w /\ okSV ρ n z /\ (∀ X Y, eqGuard op t X Y (conc ρ x) (conc ρ y) = pure ()) := by
  unfold binOp at h
  split at h
  · rename_i k a k' b
    refine ⟨?_, ?_, fun X Y => by simp [conc, eqGuard_at_int]⟩
    · cases op with
      | shl => simp only [shiftOp] at h; split at h <;> simp [wrapB] at h; subst h; simp [conc, Go.binOp, Op.shift, *]
      | shr => simp only [shiftOp] at h; split at h <;> simp at h; subst h; simp [conc, Go.binOp, Op.shift, *]
      | _ =>
        simp only at h
        cases hk : kindEq k k' with
        | false => simp [hk] at h
        | true =>
          have := kindEq_eq hk
          subst this
          simp only [hk, cond_true, intOp] at h
          first
            | (simp [wrapB] at h; subst h; simp [conc, Go.binOp, Op.intArith, Op.intCmp]; done)
            | (simp at h; subst h; simp [conc, Go.binOp, Op.intArith, Op.intCmp]; done)
            | (split at h <;> simp [wrapB] at h; subst h; simp [conc, Go.binOp, Op.intDiv, *]; done)
            | (have := bitsOp_ok (P := P) (w := w) (ρ := ρ) (n := n) h; simp [conc, Go.binOp, this.1]; done)
    · cases op <;> simp only [shiftOp] at h <;>
        first
          | (split at h <;> simp [wrapB] at h; subst h; simp [okSV]; done)
          | (cases hk : kindEq k k' <;> simp only [hk, cond_true, cond_false, intOp] at h <;>
              first
                | (cases h; done)
                | (simp [wrapB] at h; subst h; simp [okSV]; done)
                | (simp at h; subst h; simp [okSV]; done)
                | (split at h <;> simp [wrapB] at h; subst h; simp [okSV]; done)
                | (exact (bitsOp_ok (P := P) (w := w) (ρ := ρ) (n := n) h).2))
  · rename_i a b
    refine ⟨?_, ?_, fun X Y => by simp [conc, eqGuard_at_string]⟩
    · have e1 : ∀ s : List UInt8, (ByteArray.mk s.toArray).toList = s := fun s => by rw [ByteArray.toList_eq]
      cases op <;> simp only [strOp] at h <;> first
        | (cases hb : Nat.ble (a.length + b.length) 4611686018427387904 <;> simp [hb] at h
           subst h
           have hb' := Nat.le_of_ble_eq_true hb
           have e : ({ data := a.toArray } : ByteArray) ++ { data := b.toArray } = { data := (a ++ b).toArray } := by
             apply ByteArray.ext
             simp
           simp [conc, Go.binOp, Op.stringOp, ByteArray.size, e]
           omega)
        | (cases h; done)
        | (simp at h; subst h; simp [conc, Go.binOp, Op.stringOp, e1]; done)
    · cases op <;> simp only [strOp] at h <;> first
        | (cases hb : Nat.ble (a.length + b.length) 4611686018427387904 <;> simp [hb] at h
           subst h; simp [okSV]; done)
        | (cases h; done)
        | (simp at h; subst h; simp [okSV]; done)
  · cases h
theorem equal_bool (t : TypeId) (ht : P.underlying t = some .bool) (a b : Bool) : (Op.equal t (.bool a) (.bool b)).run P w = .ok (a == b) w := by
 have h : ∀ d, (Op.equalIn (d + 1) t (.bool a) (.bool b)).run P w = .ok (a == b) w := fun d => by
  rw [Op.equalIn]; simp [run_underlying ht]
 exact h 9999
theorem equal_sliceN (t e : TypeId) (ht : P.underlying t = some (.slice e)) (a : Option Addr) (n c l d : Nat) : (Op.equal t (.slice a n c) (.slice none l d)).run P w = .ok a.isNone w := by
 have h : ∀ d', (Op.equalIn (d' + 1) t (.slice a n c) (.slice none l d)).run P w = .ok a.isNone w := fun d' => by
  rw [Op.equalIn]; cases a <;> simp [run_underlying ht]
 exact h 9999
theorem equal_Nslice (t e : TypeId) (ht : P.underlying t = some (.slice e)) (a : Option Addr) (n c l d : Nat) : (Op.equal t (.slice none l d) (.slice a n c)).run P w = .ok a.isNone w := by
 have h : ∀ d', (Op.equalIn (d' + 1) t (.slice none l d) (.slice a n c)).run P w = .ok a.isNone w := fun d' => by
  rw [Op.equalIn]; cases a <;> simp [run_underlying ht]
 exact h 9999
theorem binB_ok {op : BinOp} {x y z : SV} (t : TypeId) (ht : P.underlying t = some .bool) (h : binB op x y = some z) :
  (Go.binOp op t (conc ρ x) (conc ρ y)).run P w = .ok (conc ρ z) w /\ okSV ρ n z /\ (∀ X Y, eqGuard op t X Y (conc ρ x) (conc ρ y) = pure ()) := by
 unfold binB at h
 split at h
 ·rename_i a b
  refine ⟨?_, ?_, fun X Y => by simp [conc, eqGuard_at_bool]⟩
  ·cases op <;> simp at h <;> subst h <;> simp [conc, Go.binOp, equal_bool t ht]
  ·cases op <;> simp at h <;> subst h <;> simp [okSV]
 ·cases h
theorem binS_ok {op : BinOp} {x y z : SV} {e : TypeId} (t : TypeId) (ht : P.underlying t = some (.slice e)) (h : binS op x y = some z) :
  (Go.binOp op t (conc ρ x) (conc ρ y)).run P w = .ok (conc ρ z) w /\ okSV ρ n z /\ (∀ X Y, eqGuard op t X Y (conc ρ x) (conc ρ y) = pure ()) := by
 unfold binS at h
 split at h
 ·rename_i s u
  obtain ⟨sb, sl, sc⟩ := s
  obtain ⟨ub, ul, uc⟩ := u
  refine ⟨?_, ?_, fun X Y => by simp [conc, eqGuard_at_slice]⟩
  ·cases op <;> simp only [nilEq] at h <;> first
    | (cases h; done)
    | (cases sb <;> cases ub <;> simp at h <;> subst h <;> simp [conc, Go.binOp, equal_sliceN t e ht, equal_Nslice t e ht])
  ·cases op <;> simp only [nilEq] at h <;> first
    | (cases h; done)
    | (cases sb <;> cases ub <;> simp at h <;> subst h <;> simp [okSV])
 ·cases h
theorem unOp_ok {op : UnOp} {x z : SV} (h : unOp op x = some z) : (Op.unary op (conc ρ x)).run P w = .ok (conc ρ z) w /\ okSV ρ n z := by
 unfold unOp at h
 split at h
 ·simp [wrapB] at h; subst h; simp [conc, Op.unary, Op.intArith, okSV]
 ·have := bitsOp_ok (P := P) (w := w) (ρ := ρ) (n := n) h
  simp [conc, Op.unary, this.1, this.2]
 ·simp at h; subst h; simp [conc, Op.unary, okSV]
 ·cases h
end
end Go.Sh

/- A call that ends in 'true' and leaves memory as it was. -/
import Derived.Test.YtpdkfleleebdaaaGreatDoorSh19
import Derived.Below
set_option linter.unusedVariables false
namespace Go.Sh
open Go Go.RowKit
theorem Comp.nil {P : Program} : Comp P (fun f => assoc ([] : List (Nat × Fn)) f) := fun f cf h => by simp [assoc] at h
theorem Comp.cons {P : Program} {l : List (Nat × Fn)} {k : Nat} {cf : Fn} (h : Hints) {fn : Func} (hf : P.funcs[k]? = some fn) (hc : compFn P h fn = some cf) (hl : Comp P (fun f => assoc l f)) : Comp P (fun f => assoc ((k, cf) :: l) f) := fun f c hg => by
 simp only [assoc] at hg
 cases hb : Nat.beq k f with
 | true =>
  rw [hb] at hg
  simp only [cond_true, Option.some.injEq] at hg
  subst hg
  have := Nat.eq_of_beq_eq_true hb
  subst this
  exact ⟨h, fn, hf, hc⟩
 | false => rw [hb] at hg; exact hl f c hg
def ReadOnly (H : Heap) : Prop := ∀ r row, H.get r = some row -> row.kind ≠ 2
theorem below_of {H H' : Heap} {w w' : World} {ρ ρ' : Place} (hr : HRel ⟨w, H, ρ⟩ ρ' H' w') (ro : ReadOnly H) : Below w.heap.size w w' :=
 ⟨hr.os, hr.tape, hr.output, hr.size, fun b hb => hr.keep b hb fun ⟨r, row, h1, h2, _⟩ => ro r row h1 h2⟩
def isTrue : Option (SV × Heap) -> Bool
 | some (.bool true, _) => true
 | _ => false
theorem isTrue_eq {x : Option (SV × Heap)} (h : isTrue x = true) : ∃ H', x = some (.bool true, H') := by
 unfold isTrue at h
 split at h
 ·exact ⟨_, rfl⟩
 ·cases h
def noRows : Heap := ⟨0, .nil⟩
theorem noRows_rel (w : World) : HRel ⟨w, noRows, fun _ => ⟨0, 0, 0, 0⟩⟩ (fun _ => ⟨0, 0, 0, 0⟩) noRows w := by
 have hn : ∀ r row, noRows.get r ≠ some row := fun r row h => by
  have := Heap.get_lt h
  exact Nat.not_lt_zero _ this
 exact ⟨rfl, rfl, rfl, Nat.le_refl _, fun _ _ _ => rfl, fun r row hg => absurd hg (hn r row), fun r row hg => absurd hg (hn r row), fun r _ row _ hg => absurd hg (hn r row), HExt.refl _, fun _ _ => rfl⟩
end Go.Sh

/- A call that ends in 'true' and leaves memory as it was. -/
import Derived.Test.YtclpbombaffmgaaDoorSh19
import Derived.Below
set_option linter.unusedVariables false
namespace Go.Sh
open Go Go.RowKit

theorem Comp.nil {P : Program} : Comp P (fun f => assoc ([] : List (Nat × Fn)) f) := fun f cf h => by simp [assoc] at h
theorem Comp.cons {P : Program} {l : List (Nat × Fn)} {k : Nat} {cf : Fn} (h : Hints) {fn : Func} (hf : P.funcs[k]? = some fn) (hc : compFn P h fn = some cf) (hl : Comp P (fun f => assoc l f)) : Comp P (fun f => assoc ((k, cf) :: l) f) := fun f c hg => by
  simp only [assoc] at hg
  cases hb : Nat.beq k f with
  | true =>
    rw [hb] at hg
    simp only [cond_true, Option.some.injEq] at hg
    subst hg
    have := Nat.eq_of_beq_eq_true hb
    subst this
    exact ⟨h, fn, hf, hc⟩
  | false => rw [hb] at hg; exact hl f c hg

/-- No row that may be written. -/
def ReadOnly (H : Heap) : Prop := ∀ r row, H.get r = some row → row.kind ≠ 2
theorem below_of {H H' : Heap} {w w' : World} {ρ ρ' : Place} (hr : HRel ⟨w, H, ρ⟩ ρ' H' w') (ro : ReadOnly H) : Below w.heap.size w w' :=
  ⟨hr.os, hr.tape, hr.output, hr.size, fun b hb => hr.keep b hb fun ⟨r, row, h1, h2, _⟩ => ro r row h1 h2⟩
theorem calls_run {P : Program} {fns : Nat → Option Fn} (hP : Comp P fns) (hm : P.follows .mixedOrders = true) {K d f : Nat} {xs : List SV} {vs : List Value} {H H' : Heap} {r : SV} {w : World} {ρ : Place} {cx : Ctx}
    (h : run fns K d f xs H = some (r, H')) (hr : HRel cx ρ H w) (ro : ReadOnly H) (hv : VRL ρ H.size xs vs) (hs : ∀ ρ, conc ρ r = conc (fun _ => ⟨0, 0, 0, 0⟩) r) (hni : ∀ k n, r ≠ .int k n) :
    Calls P f vs.toArray w fun e w' => e = .returned (conc (fun _ => ⟨0, 0, 0, 0⟩) r) ∧ Below w.heap.size w w' :=
  ((run_sound hP hm K d).calls f xs H r H' h (fun ⟨_, ⟨k, n, e⟩, _⟩ => hni k n e) cx ρ w vs hr hv).mono fun e w' ⟨v, ρ', h1, _, _, h4, h5⟩ => ⟨by rw [h1, h4, hs], below_of h5 ro⟩
def isTrue : Option (SV × Heap) → Bool
  | some (.bool true, _) => true
  | _ => false
theorem isTrue_eq {x : Option (SV × Heap)} (h : isTrue x = true) : ∃ H', x = some (.bool true, H') := by
  unfold isTrue at h
  split at h
  · exact ⟨_, rfl⟩
  · cases h
def noRows : Heap := ⟨0, .nil⟩
theorem noRows_rel (w : World) : HRel ⟨w, noRows, fun _ => ⟨0, 0, 0, 0⟩⟩ (fun _ => ⟨0, 0, 0, 0⟩) noRows w := by
  have hn : ∀ r row, noRows.get r ≠ some row := fun r row h => by
    have := Heap.get_lt h
    exact Nat.not_lt_zero _ this
  exact ⟨rfl, rfl, rfl, Nat.le_refl _, fun _ _ _ => rfl, fun r row hg => absurd hg (hn r row), fun r row hg => absurd hg (hn r row), fun r _ row _ hg => absurd hg (hn r row), HExt.refl _, fun _ _ => rfl⟩
/-- A closed call. -/
theorem calls_closed {P : Program} {fns : Nat → Option Fn} (hP : Comp P fns) (hm : P.follows .mixedOrders = true) {K d f : Nat} (h : isTrue (run fns K d f [] noRows) = true) (w : World) :
    Calls P f #[] w fun e w' => e = .returned (.bool true) ∧ Below w.heap.size w w' := by
  obtain ⟨H', h⟩ := isTrue_eq h
  exact calls_run hP hm (vs := []) h (noRows_rel w) (fun r row hg => absurd (Heap.get_lt hg) (Nat.not_lt_zero _)) trivial (fun _ => rfl) (fun _ _ e => by cases e)
end Go.Sh

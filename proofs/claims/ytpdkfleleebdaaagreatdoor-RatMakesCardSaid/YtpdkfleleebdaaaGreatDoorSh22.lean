/- The machine with answers that are known ahead. -/
import Derived.Test.YtpdkfleleebdaaaGreatDoorSh21
set_option linter.unusedVariables false
namespace Go.Sh
open Go Go.RowKit
def runO (O : CallC) (fns : Nat -> Option Fn) (K : Nat) : Nat -> CallC
 | 0, f, args, H => O f args H
 | d + 1, f, args, H =>
  match O f args H with
  | some r => some r
  | none => match fns f with
   | none => none
   | some fn => bif Nat.beq args.length fn.nparams then runFn2 fn K (runO O fns K d) args H else none
theorem runO_sound {P : Program} {O : CallC} {fns : Nat -> Option Fn} (hO : CallOK P O) (hE : ExtC O) (hP : Comp P fns) (hw : ∀ f cf, fns f = some cf -> cf.within = true) (hm : P.follows .mixedOrders = true) (K : Nat) :
  ∀ d, CallOK P (runO O fns K d) /\ ExtC (runO O fns K d)
 | 0 => ⟨hO, hE⟩
 | d + 1 => by
  obtain ⟨ih, ie⟩ := runO_sound hO hE hP hw hm K d
  have key : ∀ g xs H r H', runO O fns K (d + 1) g xs H = some (r, H') -> O g xs H = some (r, H') \/ ∃ cf h fn, P.funcs[g]? = some fn /\ compFn P h fn = some cf /\ xs.length = cf.nparams /\ runFn cf K (runO O fns K d) xs H = some (r, H') := fun g xs H r H' hz => by
   simp only [runO] at hz
   cases ho : O g xs H with
   | some p => rw [ho] at hz; exact .inl hz
   | none =>
    right
    rw [ho] at hz
    simp only at hz
    cases hg : fns g with
    | none => rw [hg] at hz; cases hz
    | some cf =>
     rw [hg] at hz
     simp only at hz
     cases hb : Nat.beq xs.length cf.nparams with
     | false => rw [hb] at hz; cases hz
     | true =>
      rw [hb] at hz
      simp only [cond_true] at hz
      obtain ⟨h, fn, h1, h2⟩ := hP g cf hg
      refine ⟨cf, h, fn, h1, h2, Nat.eq_of_beq_eq_true hb, ?_⟩
      rw [runFn_twin (hw g cf hg) K _ (Nat.eq_of_beq_eq_true hb)]
      exact hz
  refine ⟨⟨fun g xs H r H' hz => ?_, fun g xs H r H' hz hnt cx ρ w vs hr hv => ?_⟩, fun g xs H r H' hz => ?_⟩
  ·rcases key g xs H r H' hz with ho | ⟨cf, h, fn, h1, h2, h3, h4⟩
   ·exact hO.fn g xs H r H' ho
   ·obtain ⟨c, k1, _, _, k4, _⟩ := compFn_ok h2
    exact .inl ⟨fn, h1, k4, by simp [k1]⟩
  ·rcases key g xs H r H' hz with ho | ⟨cf, h, fn, h1, h2, h3, h4⟩
   ·exact hO.calls g xs H r H' ho hnt cx ρ w vs hr hv
   ·exact runFn_sound ih (draw_sound ih ie hm h) h1 h2 K h3 h4 hr hv
  ·rcases key g xs H r H' hz with ho | ⟨cf, h, fn, h1, h2, h3, h4⟩
   ·exact hE g xs H r H' ho
   ·exact runFn_ext ie cf K h4
theorem HRel.below {cx : Ctx} {ρ : Place} {H : Heap} {w w' : World} (hr : HRel cx ρ H w) (hb : Below w.heap.size w w') : HRel ⟨w, H, ρ⟩ ρ H w' :=
 hr.fresh.world ⟨hb.os, hb.tape, hb.output⟩ hb.size (fun b h => hb.block b h) (fun r row hg hk => hb.block _ (hr.rows r row hg hk).lt)
def closedO (l : List (Nat × SV)) : CallC := fun f xs H =>
 match xs with
 | [] => (assoc l f).map fun v => (v, H)
 | _ => none
structure Ends (P : Program) (f : Nat) (v : SV) : Prop where
 fn : ∃ fn, P.funcs[f]? = some fn /\ (fn.name == "runtime.NumGoroutine") = false /\ fn.body.isNone = false
 ok : ∀ ρ n, okSV ρ n v
 calls : ∀ w, Calls P f #[] w fun e w' => (∀ ρ, e = .returned (conc ρ v)) /\ Below w.heap.size w w'
theorem closedO_ok {P : Program} {l : List (Nat × SV)} (hl : ∀ f v, assoc l f = some v -> Ends P f v) : CallOK P (closedO l) /\ ExtC (closedO l) := by
 have key : ∀ g xs H r H', closedO l g xs H = some (r, H') -> xs = [] /\ Ends P g r /\ H' = H := fun g xs H r H' hz => by
  unfold closedO at hz
  split at hz
  ·simp only [Option.map_eq_some_iff, Prod.mk.injEq] at hz
   obtain ⟨v, h1, rfl, rfl⟩ := hz
   exact ⟨rfl, hl _ _ h1, rfl⟩
  ·cases hz
 refine ⟨⟨fun g xs H r H' hz => .inl (key g xs H r H' hz).2.1.fn, fun g xs H r H' hz _ cx ρ w vs hr hv => ?_⟩, fun g xs H r H' hz => by rw [(key g xs H r H' hz).2.2]; exact HExt.refl _⟩
 obtain ⟨rfl, he, rfl⟩ := key g xs H r H' hz
 cases vs with
 | cons _ _ => simp [VRL] at hv
 | nil =>
  refine (he.calls w).mono fun e w' ⟨h1, h2⟩ => ?_
  exact ⟨_, ρ, h1 ρ, fun _ _ => rfl, he.ok _ _, rfl, hr.below h2⟩
theorem calls_runO {P : Program} {O : CallC} {fns : Nat -> Option Fn} (hO : CallOK P O /\ ExtC O) (hP : Comp P fns) (hw : ∀ f cf, fns f = some cf -> cf.within = true) (hm : P.follows .mixedOrders = true) {K d f : Nat} {xs : List SV} {vs : List Value} {H H' : Heap} {w : World} {ρ : Place} {cx : Ctx}
  (h : runO O fns K d f xs H = some (.bool true, H')) (hr : HRel cx ρ H w) (ro : ReadOnly H) (hv : VRL ρ H.size xs vs) :
  Calls P f vs.toArray w fun e w' => e = .returned (.bool true) /\ Below w.heap.size w w' :=
 ((runO_sound hO.1 hO.2 hP hw hm K d).1.calls f xs H _ H' h (fun ⟨_, ⟨k, n, e⟩, _⟩ => by cases e) cx ρ w vs hr hv).mono fun e w' ⟨v, ρ', h1, _, _, h4, h5⟩ => ⟨by rw [h1, h4]; simp [conc], below_of h5 ro⟩
end Go.Sh

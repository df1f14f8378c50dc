/- Statements with arguments: known answers first, over plain forms; arguments as rows that are only read. -/
import Derived.Test.YtpdkfleleebdaaaGreatDoorSh28
import Derived.ChangeSlices
import Derived.WideShapes
set_option linter.unusedVariables false
set_option linter.unusedSimpArgs false
namespace Go.Sh
open Go Go.RowKit
noncomputable def runQ (O : CallC) (T : BT Ent) (o : Ops) (K : Nat) (d : Nat) : CallC := Nat.rec (motive := fun _ => CallC) O (fun _ ih g xs H => match O g xs H with | some r => some r | none => T.getK g fun e => e o K ih xs H) d
theorem runQ_eq {O : CallC} {l : EL} (h : AllOk l) (K : Nat) : ∀ d, runO O (fun f => assoc (fnsOf l) f) K d = runQ O (tabOf l) slow K d
 | 0 => by funext g xs H; rfl
 | d + 1 => by
  have ih := runQ_eq (O := O) h K d
  funext g xs H
  show (match O g xs H with | some r => some r | none => match assoc (fnsOf l) g with | none => none | some fn => bif Nat.beq xs.length fn.nparams then runFn2 fn K (runO O (fun f => assoc (fnsOf l) f) K d) xs H else none) = (match O g xs H with | some r => some r | none => (tabOf l).getK g fun e => e slow K (runQ O (tabOf l) slow K d) xs H)
  cases O g xs H with
  | some r => rfl
  | none =>
   simp only
   rw [BT.getK_eq, ih]
   rcases tab_same h g with ⟨h1, h2⟩ | ⟨cf, e, h1, h2, h3⟩
   ·rw [h1, h2]; rfl
   ·rw [h1, h2]
    exact h3 K _ xs H
theorem one_ok {P : Program} {f : Nat} (h : Ends P f (.bool true)) : CallOK P (closedO [(f, .bool true)]) /\ ExtC (closedO [(f, .bool true)]) :=
 closedO_ok fun g v hg => by
  simp only [assoc] at hg
  cases hb : Nat.beq f g with
  | true =>
   rw [hb] at hg
   simp only [cond_true, Option.some.injEq] at hg
   rw [<- Nat.eq_of_beq_eq_true hb, <- hg]
   exact h
  | false => rw [hb] at hg; cases hg
structure Start (W : World) (H : Heap) (ρ : Place) : Prop where
 kinds : ∀ r row, H.get r = some row -> row.kind = 0 \/ row.kind = 1
 rows : ∀ r row, H.get r = some row -> row.kind ≠ 0 -> RowRel ρ H.size W (ρ r) row
theorem Start.none (W : World) (ρ : Place) : Start W noRows ρ :=
 ⟨fun r row h => absurd (Heap.get_lt h) (Nat.not_lt_zero _), fun r row h => absurd (Heap.get_lt h) (Nat.not_lt_zero _)⟩
theorem Start.hrel {W : World} {H : Heap} {ρ : Place} (h : Start W H ρ) : HRel ⟨W, H, ρ⟩ ρ H W where
 os := rfl
 tape := rfl
 output := rfl
 size := Nat.le_refl _
 keep := fun _ _ _ => rfl
 rows := h.rows
 own := fun r row hg hk => by rcases h.kinds r row hg with e | e <;> omega
 sep := fun r r' row row' hg _ hk _ _ => by rcases h.kinds r row hg with e | e <;> omega
 ext := HExt.refl H
 old := fun _ _ => rfl
theorem Start.readOnly {W : World} {H : Heap} {ρ : Place} (h : Start W H ρ) : ReadOnly H := fun r row hg => by rcases h.kinds r row hg with e | e <;> omega
structure More (H : Heap) (ρ : Place) (H' : Heap) (ρ' : Place) : Prop where
 fr : Frame H H'
 place : ∀ i, i < H.size -> ρ' i = ρ i
theorem vrl_cons {ρ : Place} {n : Nat} {x : SV} {v : Value} {xs : List SV} {vs : List Value} (h : okSV ρ n x) (hv : conc ρ x = v) (ht : VRL ρ n xs vs) : VRL ρ n (x :: xs) (v :: vs) := ⟨.inr ⟨h, hv.symm⟩, ht⟩
theorem vrl_nil {ρ : Place} {n : Nat} : VRL ρ n [] [] := trivial
theorem calls_law {P : Program} {O : CallC} {l : EL} (hO : CallOK P O /\ ExtC O) (hl : AllOk l) {T : BT Ent} (hT : tabOf l = T) (hP : Comp P (fun f => assoc (fnsOf l) f)) (hw : ((fnsOf l).all fun p => p.2.within) = true) (hm : P.follows .mixedOrders = true) {K d f : Nat} {xs : List SV} {vs : List Value} {H H' : Heap} {w : World} {ρ : Place}
  (h : runQ O T slow K d f xs H = some (.bool true, H')) (hs : Start w H ρ) (hv : VRL ρ H.size xs vs) :
  Calls P f vs.toArray w fun e w' => e = .returned (.bool true) /\ Below w.heap.size w w' :=
 calls_runO (fns := fun f => assoc (fnsOf l) f) hO hP (within_all hw) hm (by rw [runQ_eq hl, hT]; exact h) hs.hrel hs.readOnly hv
end Go.Sh

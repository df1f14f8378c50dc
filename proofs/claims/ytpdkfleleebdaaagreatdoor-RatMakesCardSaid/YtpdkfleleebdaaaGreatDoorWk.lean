/- The closed call that each statement of the layer asks first ends in true; a byte's place in a text is told by the model. -/
import Derived.Test.YtpdkfleleebdaaaGreatDoorEq
import Derived.Test.YtpdkfleleebdaaaGreatDoorSh29
import Derived.Laws.StandIn
import Derived.Lib.Bytealg
import Derived.KernelRfl
namespace Go.Sh
open Go Go.RowKit
def orO (O O' : CallC) : CallC := fun g xs H => match O g xs H with | some r => some r | none => O' g xs H
theorem orO_ok {P : Program} {O O' : CallC} (h : CallOK P O /\ ExtC O) (h' : CallOK P O' /\ ExtC O') : CallOK P (orO O O') /\ ExtC (orO O O') := by
 have key : ∀ g xs H r H', orO O O' g xs H = some (r, H') -> O g xs H = some (r, H') \/ O' g xs H = some (r, H') := fun g xs H r H' hz => by
  unfold orO at hz
  split at hz
  ·rename_i r' e
   rw [e]
   exact .inl hz
  ·exact .inr hz
 refine ⟨⟨fun g xs H r H' hz => ?_, fun g xs H r H' hz => ?_⟩, fun g xs H r H' hz => ?_⟩
 ·rcases key g xs H r H' hz with e | e
  ·exact h.1.fn g xs H r H' e
  ·exact h'.1.fn g xs H r H' e
 ·rcases key g xs H r H' hz with e | e
  ·exact h.1.calls g xs H r H' e
  ·exact h'.1.calls g xs H r H' e
 ·rcases key g xs H r H' hz with e | e
  ·exact h.2 g xs H r H' e
  ·exact h'.2 g xs H r H' e
theorem Ends.of_q {P : Program} {O : CallC} (hO : CallOK P O /\ ExtC O) {l : EL} (hl : AllOk l) {T : BT Ent} (hT : tabOf l = T) (hP : Comp P (fun f => assoc (fnsOf l) f)) (hw : ((fnsOf l).all fun p => p.2.within) = true) (hm : P.follows .mixedOrders = true) {K d f : Nat} (h : isTrue (runQ O T slow K d f [] noRows) = true) : Ends P f (.bool true) := by
 obtain ⟨H', h⟩ := isTrue_eq h
 rw [<- hT, <- runQ_eq hl] at h
 refine ⟨?_, fun _ _ => by simp [okSV], fun w => ?_⟩
 ·exact ((runO_sound hO.1 hO.2 hP (within_all hw) hm K d).1.fn f [] noRows _ _ h).resolve_right fun ⟨_, ⟨k, n, e⟩, _⟩ => by cases e
 ·exact (calls_runO hO hP (within_all hw) hm (vs := []) h (noRows_rel w) (fun r row hg => absurd (Heap.get_lt hg) (Nat.not_lt_zero _)) trivial).mono fun e w' ⟨h1, h2⟩ => ⟨fun ρ => by rw [h1]; simp [conc], h2⟩
def idxO (i : Nat) : CallC := fun g xs H => bif Nat.beq i g then (match xs with
 | [.str s, .int .u8 c] => some (.int .i64 (Lib.indexByte s c.toNat.toUInt8), H)
 | _ => none) else none
theorem idxO_ok {P : Program} {i : Nat} {fn : Func} (hf : P.funcs[i]? = some fn) (hn : (fn.name == "runtime.NumGoroutine") = false) (hb : fn.body.isNone = true) (hx : Extern.findNext fn = none) (he : Extern.find fn = some Extern.BytealgIndexByte.indexByte) : CallOK P (idxO i) /\ ExtC (idxO i) := by
 have key : ∀ g xs H r H', idxO i g xs H = some (r, H') -> g = i /\ H' = H /\ ∃ s c, xs = [.str s, .int .u8 c] /\ r = .int .i64 (Lib.indexByte s c.toNat.toUInt8) := fun g xs H r H' hz => by
  unfold idxO at hz
  cases hb : Nat.beq i g with
  | false => rw [hb] at hz; cases hz
  | true =>
   rw [hb] at hz
   simp only [cond_true] at hz
   split at hz
   ·rename_i s c
    cases hz
    exact ⟨(Nat.eq_of_beq_eq_true hb).symm, rfl, s, c, rfl, rfl⟩
   ·cases hz
 have told : ∀ g xs H r H', idxO i g xs H = some (r, H') -> Told P g xs H r H' := fun g xs H r H' hz => by
  obtain ⟨rfl, rfl, s, c, rfl, rfl⟩ := key g xs H r H' hz
  refine ⟨rfl, ⟨_, _, rfl⟩, fun ρ w vs hv => ?_⟩
  match vs, hv with
  | [v1, v2], hv =>
   simp only [VRL] at hv
   obtain ⟨h1, h2, _⟩ := hv
   obtain ⟨_, rfl⟩ := VR.ne h1 (by simp)
   obtain ⟨_, rfl⟩ := VR.ne h2 (by simp)
   refine ⟨.int .i64 (Lib.indexByte s c.toNat.toUInt8), ?_, .inr ⟨by simp [okSV], rfl⟩⟩
   rw [run_callFunc_indexByte hf hn hb hx he]
   have e : (Extern.BytealgIndexByte.indexByte #[.string ⟨s.toArray⟩, .int .u8 c]).run P w = .ok (.int .i64 (Lib.indexByte s c.toNat.toUInt8)) w := by
    have := Lib.run_indexByteString (P := P) ⟨s.toArray⟩ c w
    simpa using this
   show ((Extern.BytealgIndexByte.indexByte #[conc ρ (.str s), conc ρ (.int .u8 c)]).run P w).andThen _ = _
   rw [show conc ρ (.str s) = .string ⟨s.toArray⟩ by simp [conc], show conc ρ (.int .u8 c) = .int .u8 c by simp [conc], e]
   rfl
  | [], hv => simp [VRL] at hv
  | [_], hv => simp [VRL] at hv
  | _ :: _ :: _ :: _, hv => simp [VRL] at hv
 exact ⟨⟨fun g xs H r H' hz => .inr (told g xs H r H' hz), fun g xs H r H' hz hnt => absurd (told g xs H r H' hz) hnt⟩, fun g xs H r H' hz => by rw [(key g xs H r H' hz).2.1]; exact HExt.refl _⟩
end Go.Sh
namespace Go.Sh.Of
open Go
def wk0 : CallC := idxO 107
theorem wk0Ok : CallOK Go.Proofs.Tryz.prog wk0 /\ ExtC wk0 := idxO_ok Go.Proofs.Tryz.func107 (by kernel_rfl) (by kernel_rfl) (by kernel_rfl) (by kernel_rfl)
set_option maxRecDepth 1000000 in
theorem wakeT : isTrue (runQ wk0 tab slow 100000 100 4 [] noRows) = true := by kernel_rfl
theorem wake : Ends Go.Proofs.Tryz.prog 4 (.bool true) := Ends.of_q (l := ents) wk0Ok entsOk tab_eq comp within mixed wakeT
def wk : CallC := orO wk0 (closedO [(4, .bool true)])
theorem wkOk : CallOK Go.Proofs.Tryz.prog wk /\ ExtC wk := orO_ok wk0Ok (one_ok wake)
end Go.Sh.Of

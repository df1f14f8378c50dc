/- Operands; operations that touch no memory, as the model carries them out. -/
import Derived.Test.YtpdkfleleebdaaaGreatDoorSh5
set_option linter.unusedVariables false
set_option linter.unusedSimpArgs false
namespace Go.Sh
open Go
structure Rel (P : Program) (h : Hints) (cx : Ctx) (ρ : Place) (lam : Nat -> Nat) (T : Tmps) (H : Heap) (a : Act) (w : World) : Prop where
 heap : HRel cx ρ H w
 tmps : TRel cx ρ lam h.isLoc h.derOf H w T a
def VRL (ρ : Place) (n : Nat) : List SV -> List Value -> Prop
 | [], [] => True
 | x :: xs, v :: vs => VR ρ n x v /\ VRL ρ n xs vs
 | _, _ => False
theorem VRL.length {ρ : Place} {n : Nat} : ∀ {xs : List SV} {vs : List Value}, VRL ρ n xs vs -> xs.length = vs.length
 | [], [], _ => rfl
 | x :: xs, v :: vs, h => by simp only [VRL] at h; simp [VRL.length h.2]
 | [], _ :: _, h => by simp [VRL] at h
 | _ :: _, [], h => by simp [VRL] at h
theorem VRL.get {ρ : Place} {n : Nat} : ∀ {xs : List SV} {vs : List Value}, VRL ρ n xs vs -> ∀ (k : Nat) (x : SV) (v : Value), xs[k]? = some x -> vs[k]? = some v -> VR ρ n x v
 | [], [], _, k, x, v, hx, _ => by simp at hx
 | x :: xs, v :: vs, h, 0, x', v', hx, hv => by
  simp only [VRL] at h; simp at hx hv; subst hx; subst hv; exact h.1
 | x :: xs, v :: vs, h, k + 1, x', v', hx, hv => by
  simp only [VRL] at h; exact VRL.get h.2 k x' v' (by simpa using hx) (by simpa using hv)
 | [], _ :: _, h, _, _, _, _, _ => by simp [VRL] at h
 | _ :: _, [], h, _, _, _, _, _ => by simp [VRL] at h
theorem VRL.ok {ρ : Place} {n : Nat} : ∀ {xs : List SV} {vs : List Value}, VRL ρ n xs vs -> xs.all SV.good = true -> okL ρ n xs /\ vs = concL ρ xs
 | [], [], _, _ => by simp [okL, concL]
 | x :: xs, v :: vs, h, hg => by
  simp only [VRL] at h
  simp only [List.all_cons, Bool.and_eq_true] at hg
  have hx : x ≠ .junk := by rintro rfl; simp [SV.good] at hg
  obtain ⟨o, rfl⟩ := h.1.ne hx
  obtain ⟨ol, rfl⟩ := VRL.ok h.2 hg.2
  exact ⟨⟨o, ol⟩, by simp [concL]⟩
 | [], _ :: _, h, _ => by simp [VRL] at h
 | _ :: _, [], h, _ => by simp [VRL] at h
section
variable {P : Program} {h : Hints} {cx : Ctx} {ρ : Place} {lam : Nat -> Nat} {T : Tmps} {H : Heap} {a : Act} {w : World}
theorem getT_cases (T : Tmps) (t : Nat) : T[t]? = some (getT T t) \/ getT T t = .junk := by
 unfold getT
 cases ht : T[t]? with
 | none => right; simp [List.getD, ht]
 | some v => left; simp [List.getD, ht]
theorem ev_tmp (hr : TRel cx ρ lam h.isLoc h.derOf H w T a) {t : Nat} (hl : h.isLoc t = false) (hd : h.derOf t = none) : VR ρ H.size (getT T t) (a.tmps.getD t Go.undef) := by
 rcases getT_cases T t with hg | hg
 ·have := hr.slot t _ hg
  cases hv : getT T t with
  | junk => exact .inl rfl
  | box cs =>
   have := hr.boxloc t cs (hv ▸ hg)
   simp [hl] at this
  | lptr o =>
   rw [hv] at this
   obtain ⟨u, hu, _⟩ := this
   simp [hd] at hu
  | _ => rw [hv] at this; exact .inr this
 ·exact .inl hg
theorem ev_opd (hr : TRel cx ρ lam h.isLoc h.derOf H w T a) {x : Operand} {y : Opd} (ho : opd h x = some y) : VR ρ H.size (y.ev T) (a.eval x) := by
 cases x with
 | tmp t =>
  simp only [opd] at ho
  cases hb : (h.isLoc t || (h.derOf t).isSome) with
  | true => simp [hb] at ho
  | false =>
   simp only [hb, cond_false, Option.some.injEq] at ho
   subst ho
   simp only [Bool.or_eq_false_iff] at hb
   exact ev_tmp hr hb.1 (by cases hd : h.derOf t <;> simp_all)
 | const v =>
  simp only [opd, Option.map_eq_some_iff] at ho
  obtain ⟨sv, hs, rfl⟩ := ho
  obtain ⟨h1, h2⟩ := svOf_ok ρ H.size hs
  exact .inr ⟨h1, by simp [Act.eval, Opd.ev, h2]⟩
 | global g => simp [opd] at ho
 | func f =>
  simp only [opd, Option.some.injEq] at ho
  subst ho
  exact .inr ⟨by simp [Opd.ev, okSV, okL], by simp [Opd.ev, Act.eval, conc, concL]⟩
theorem ev_opds (hr : TRel cx ρ lam h.isLoc h.derOf H w T a) : ∀ {l : List Operand} {ys : List Opd}, opds h l = some ys -> VRL ρ H.size (ys.map (·.ev T)) (l.map a.eval)
 | [], ys, ho => by simp [opds] at ho; subst ho; simp [VRL]
 | x :: l, ys, ho => by
  simp only [opds, Option.bind_eq_some_iff, Option.map_eq_some_iff] at ho
  obtain ⟨y, hy, ys', hys, rfl⟩ := ho
  exact ⟨ev_opd hr hy, ev_opds hr hys⟩
def RunsTo (P : Program) (ρ : Place) (n : Nat) (a : Act) (w : World) (o : Oper) (y : SV) : Prop :=
 ∃ v, (execOp a.eval o).run P w = .ok (.value v) w /\ VR ρ n y v
theorem mkOp_eq {o : Oper} {k : K} {args : List Opd} {r : K × List Opd × Option Nat × List Nat} (hm : mkOp o k args = some r) : r = (k, args, o.dst, []) := by
 simp [mkOp] at hm; exact hm.symm
theorem VR.int_of {ρ : Place} {n : Nat} {k : IntKind} {m : Int} {v : Value} (hv : VR ρ n (.int k m) v) : v = .int k m := by
 simpa [conc] using (hv.ne (by simp)).2
theorem A_bin {o : Oper} {op : BinOp} {t ty : TypeId} {x y : Operand} {r : K × List Opd × Option Nat × List Nat} (hop : o.op = .binOp op t x y ty) (hc : compBin P h o op t x y = some r)
  (hr : TRel cx ρ lam h.isLoc h.derOf H w T a) : r.2.2 = (o.dst, []) /\ ∃ k, r.1 = .p k /\ ∀ z, opP k (r.2.1.map (·.ev T)) = some z -> RunsTo P ρ H.size a w o z := by
 simp only [compBin, Option.bind_eq_some_iff] at hc
 obtain ⟨x', hx, y', hy, hc⟩ := hc
 have ex := ev_opd hr hx
 have ey := ev_opd hr hy
 split at hc <;> (try cases hc) <;> rename_i hu
 ·refine ⟨rfl, _, rfl, fun z hz => ?_⟩
  simp only [List.map_cons, List.map_nil, opP] at hz
  have jx : x'.ev T ≠ .junk := by intro e; rw [e] at hz; simp [binOp] at hz
  have jy : y'.ev T ≠ .junk := by intro e; rw [e] at hz; cases x'.ev T <;> simp [binOp] at hz
  obtain ⟨h1, h2, h3⟩ := binOp_ok (P := P) (w := w) (ρ := ρ) (n := H.size) t hz
  exact ⟨_, by simp [execOp, hop, (ex.ne jx).2, (ey.ne jy).2, h1, h3], .of h2⟩
 ·refine ⟨rfl, _, rfl, fun z hz => ?_⟩
  simp only [List.map_cons, List.map_nil, opP] at hz
  have jx : x'.ev T ≠ .junk := by intro e; rw [e] at hz; simp [binOp] at hz
  have jy : y'.ev T ≠ .junk := by intro e; rw [e] at hz; cases x'.ev T <;> simp [binOp] at hz
  obtain ⟨h1, h2, h3⟩ := binOp_ok (P := P) (w := w) (ρ := ρ) (n := H.size) t hz
  exact ⟨_, by simp [execOp, hop, (ex.ne jx).2, (ey.ne jy).2, h1, h3], .of h2⟩
 ·refine ⟨rfl, _, rfl, fun z hz => ?_⟩
  simp only [List.map_cons, List.map_nil, opP] at hz
  have jx : x'.ev T ≠ .junk := by intro e; rw [e] at hz; simp [binB] at hz
  have jy : y'.ev T ≠ .junk := by intro e; rw [e] at hz; cases x'.ev T <;> simp [binB] at hz
  obtain ⟨h1, h2, h3⟩ := binB_ok (P := P) (w := w) (ρ := ρ) (n := H.size) t hu hz
  exact ⟨_, by simp [execOp, hop, (ex.ne jx).2, (ey.ne jy).2, h1, h3], .of h2⟩
 ·refine ⟨rfl, _, rfl, fun z hz => ?_⟩
  simp only [List.map_cons, List.map_nil, opP] at hz
  have jx : x'.ev T ≠ .junk := by intro e; rw [e] at hz; simp [binS] at hz
  have jy : y'.ev T ≠ .junk := by intro e; rw [e] at hz; cases x'.ev T <;> simp [binS] at hz
  obtain ⟨h1, h2, h3⟩ := binS_ok (P := P) (w := w) (ρ := ρ) (n := H.size) t hu hz
  exact ⟨_, by simp [execOp, hop, (ex.ne jx).2, (ey.ne jy).2, h1, h3], .of h2⟩
end
end Go.Sh

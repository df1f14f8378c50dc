/- Structs, strings cut, the greatest and least; what reads memory. -/
import Derived.Test.YtpdkfleleebdaaaGreatDoorSh7
set_option linter.unusedVariables false
set_option linter.unusedSimpArgs false
namespace Go.Sh
open Go
section
variable {P : Program} {h : Hints} {cx : Ctx} {ρ : Place} {lam : Nat -> Nat} {T : Tmps} {H : Heap} {a : Act} {w : World}
theorem placesOf_ok {fields : Array Field} : ∀ (l : List (Nat × Operand)) (ps : List (Nat × Nat)), placesOf P fields l = some ps ->
  l.length = ps.length /\ ∀ (k i : Nat) (p : Nat × Nat), (l.map (·.1))[k]? = some i -> ps[k]? = some p -> ∃ f, fields[i]? = some f /\ p.1 = f.offset /\ sizeT P f.type = some p.2
 | [], ps, hp => by simp [placesOf] at hp; subst hp; simp
 | (i, x) :: l, ps, hp => by
  simp only [placesOf, Option.bind_eq_some_iff, Option.map_eq_some_iff] at hp
  obtain ⟨f, hf, m, hm, ps', hp', rfl⟩ := hp
  obtain ⟨h1, h2⟩ := placesOf_ok l ps' hp'
  refine ⟨by simp [h1], fun k i' p hi hp => ?_⟩
  cases k with
  | zero => simp at hi hp; subst hi; subst hp; exact ⟨f, hf, rfl, hm⟩
  | succ k => exact h2 k i' p (by simpa using hi) (by simpa using hp)
theorem run_places (fields : Array Field) (hs : sizesOk P fields = true) :
  ∃ arr : Array (Nat × Nat), (fields.mapM fun f => (do pure (f.offset, <- sizeOf f.type) : Sem (Nat × Nat))).run P w = .ok arr w /\ 
   ∀ (i : Nat) (f : Field) (m : Nat), fields[i]? = some f -> sizeT P f.type = some m -> arr[i]? = some (f.offset, m) := by
 have key : ∀ (l : List Field), (l.all fun f => (sizeT P f.type).isSome) = true ->
   ∃ r : List (Nat × Nat), (l.mapM fun f => (do pure (f.offset, <- sizeOf f.type) : Sem (Nat × Nat))).run P w = .ok r w /\ 
    ∀ (i : Nat) (f : Field) (m : Nat), l[i]? = some f -> sizeT P f.type = some m -> r[i]? = some (f.offset, m) := by
  intro l
  induction l with
  | nil => intro _; exact ⟨[], by simp, by simp⟩
  | cons f l ih =>
   intro hl
   simp only [List.all_cons, Bool.and_eq_true] at hl
   obtain ⟨r, hr, hg⟩ := ih hl.2
   obtain ⟨m, hm⟩ := Option.isSome_iff_exists.1 hl.1
   refine ⟨(f.offset, m) :: r, ?_, ?_⟩
   ·simp [List.mapM_cons, run_sizeT hm]
    simp at hr
    rw [hr]
    simp
   ·intro i f' m' hf hm'
    cases i with
    | zero => simp at hf; subst hf; rw [hm] at hm'; cases hm'; rfl
    | succ i => exact hg i f' m' (by simpa using hf) hm'
 obtain ⟨r, hr, hg⟩ := key fields.toList (by simpa [sizesOk] using hs)
 refine ⟨r.toArray, ?_, fun i f m hf hm => ?_⟩
 ·rw [Array.mapM_eq_mapM_toList]
  simp only [Sem.run_map, hr, Result.andThen_ok]
 ·simpa using hg i f m (by simpa using hf) hm
theorem zeroT_ok {t : TypeId} {z : List SV} (n : Nat) (hz : zeroT P t = some z) : ∃ v, (zeroValue t).run P w = .ok v w /\ v.cells = (z.map (conc ρ)).toArray /\ okL ρ n z /\ z.all SV.flat = true /\ (∃ i, P.info? t = some i /\ i.zero = some v) := by
 simp only [zeroT, Option.bind_eq_some_iff] at hz
 obtain ⟨v, ⟨i, hi, hv⟩, hz⟩ := hz
 obtain ⟨k1, k2, k3⟩ := svCells_ok ρ n _ _ hz
 exact ⟨v, by simp [zeroValue, typeInfo, hi, hv], by rw [k2], k1, k3, i, hi, hv⟩
theorem A_build {o : Oper} {t : TypeId} {parts : Array (Nat × Operand)} {xs : List Opd} {z : List SV} {ps : List (Nat × Nat)} (hop : o.op = .build t parts) (hx : opds h (parts.toList.map (·.2)) = some xs)
  (hz : zeroT P t = some z) (hp : (∃ fields, P.underlying t = some (.struct fields) /\ placesOf P fields parts.toList = some ps /\ sizesOk P fields = true) \/
   (∃ len e m, P.underlying t = some (.array len e) /\ sizeT P e = some m /\ ps = parts.toList.map fun p => (p.1 * m, m)))
  (hr : TRel cx ρ lam h.isLoc h.derOf H w T a) {y : SV} (hy : opP (.build z ps) (xs.map (·.ev T)) = some y) : RunsTo P ρ H.size a w o y := by
 have ex := ev_opds hr hx
 obtain ⟨v, hv, hc, okz, fz, _⟩ := zeroT_ok (P := P) (w := w) (ρ := ρ) H.size hz
 simp only [opP] at hy
 cases hb : Nat.beq ps.length (xs.map (·.ev T)).length with
 | false => rw [hb] at hy; simp at hy
 | true =>
  rw [hb] at hy
  simp only [cond_true, Option.map_eq_some_iff] at hy
  obtain ⟨l, hl, rfl⟩ := hy
  have hlen := Nat.eq_of_beq_eq_true hb
  have hargs : (parts.map fun p => (p.1, a.eval p.2)).toList = (parts.toList.map (·.1)).zip ((parts.toList.map (·.2)).map a.eval) := by
   simp only [Array.toList_map]
   rw [List.map_map]
   generalize parts.toList = pl
   induction pl with
   | nil => rfl
   | cons p pl ih => simp [ih]
  have hlen2 : (xs.map (·.ev T)).length = parts.toList.length := by rw [ex.length]; simp
  have hv2 : (xs.map (·.ev T)).length = ((parts.toList.map (·.2)).map a.eval).length /\ ∀ (k : Nat) (x : SV) (v : Value), (xs.map (·.ev T))[k]? = some x -> ((parts.toList.map (·.2)).map a.eval)[k]? = some v -> VR ρ H.size x v :=
   ⟨ex.length, ex.get⟩
  rcases hp with ⟨fields, hu, hpl, hso⟩ | ⟨len, e, m, hu, hs, rfl⟩
  ·obtain ⟨q1, q2⟩ := placesOf_ok _ _ hpl
   obtain ⟨arr, ha, hg⟩ := run_places (P := P) (w := w) fields hso
   obtain ⟨f1, f2, f3, _⟩ := fillS_ok (ρ := ρ) (n := H.size) (arr[·]?) (parts.toList.map (·.1)) ps (xs.map (·.ev T)) ((parts.toList.map (·.2)).map a.eval) z l (by simpa using q1) hlen
    (fun k i p hi hp' => by
     obtain ⟨f, hf, e1, e2⟩ := q2 k i p hi hp'
     rw [hg i f p.2 hf e2, <- e1]) hv2 hl okz fz
   refine ⟨conc ρ (.agg l), ?_, .of ⟨f2, f3⟩⟩
   have hrun : (Instr.build t (parts.map fun p => (p.1, a.eval p.2))).run P w = .ok (conc ρ (.agg l)) w := by
    simp only [Instr.build, Sem.run_bind, hv, Result.andThen_ok, run_underlying hu, ha, hc]
    rw [hargs, f1]
    simp [conc, concL_eq]
   simp only [execOp, hop, Sem.run_bind]
   rw [show (parts.map fun x => match x with | (i, x) => (i, a.eval x)) = parts.map fun p => (p.1, a.eval p.2) from rfl, hrun]
   rfl
  ·obtain ⟨f1, f2, f3, _⟩ := fillS_ok (ρ := ρ) (n := H.size) (fun i => some (i * m, m)) (parts.toList.map (·.1)) _ (xs.map (·.ev T)) ((parts.toList.map (·.2)).map a.eval) z l (by simp) hlen
    (fun k i p hi hp' => by
     simp only [List.getElem?_map, Option.map_eq_some_iff] at hi hp'
     obtain ⟨x, hx, rfl⟩ := hi
     obtain ⟨x', hx', rfl⟩ := hp'
     rw [hx] at hx'; cases hx'; rfl) hv2 hl okz fz
   refine ⟨conc ρ (.agg l), ?_, .of ⟨f2, f3⟩⟩
   have hrun : (Instr.build t (parts.map fun p => (p.1, a.eval p.2))).run P w = .ok (conc ρ (.agg l)) w := by
    simp only [Instr.build, Sem.run_bind, hv, Result.andThen_ok, run_underlying hu, run_sizeT hs, hc]
    rw [hargs, f1]
    simp [conc, concL_eq]
   simp only [execOp, hop, Sem.run_bind]
   rw [show (parts.map fun x => match x with | (i, x) => (i, a.eval x)) = parts.map fun p => (p.1, a.eval p.2) from rfl, hrun]
   rfl
theorem maxFrom_ok (k : IntKind) : ∀ (xs : List SV) (vs : List Value) (n : Int) (z : SV), VRL ρ H.size xs vs -> maxFrom k n xs = some z -> (vs.foldlM Builtin.max2 (.int k n)).run P w = .ok (conc ρ z) w /\ okSV ρ H.size z
 | [], [], n, z, _, hz => by simp [maxFrom] at hz; subst hz; simp [conc, okSV]
 | x :: xs, v :: vs, n, z, hv, hz => by
  simp only [VRL] at hv
  cases x <;> simp only [maxFrom] at hz <;> (try cases hz)
  have := hv.1.int_of
  subst this
  obtain ⟨h1, h2⟩ := maxFrom_ok k xs vs _ z hv.2 hz
  refine ⟨?_, h2⟩
  simp only [List.foldlM_cons, Builtin.max2, Sem.run_bind, Sem.run_pure, Result.andThen_ok]
  exact h1
 | [], _ :: _, _, _, hv, _ => by simp [VRL] at hv
 | _ :: _, [], _, _, hv, _ => by simp [VRL] at hv
theorem minFrom_ok (k : IntKind) : ∀ (xs : List SV) (vs : List Value) (n : Int) (z : SV), VRL ρ H.size xs vs -> minFrom k n xs = some z -> (vs.foldlM Builtin.min2 (.int k n)).run P w = .ok (conc ρ z) w /\ okSV ρ H.size z
 | [], [], n, z, _, hz => by simp [minFrom] at hz; subst hz; simp [conc, okSV]
 | x :: xs, v :: vs, n, z, hv, hz => by
  simp only [VRL] at hv
  cases x <;> simp only [minFrom] at hz <;> (try cases hz)
  have := hv.1.int_of
  subst this
  obtain ⟨h1, h2⟩ := minFrom_ok k xs vs _ z hv.2 hz
  refine ⟨?_, h2⟩
  simp only [List.foldlM_cons, Builtin.min2, Sem.run_bind, Sem.run_pure, Result.andThen_ok]
  exact h1
 | [], _ :: _, _, _, hv, _ => by simp [VRL] at hv
 | _ :: _, [], _, _, hv, _ => by simp [VRL] at hv
theorem A_max {o : Oper} {args : Array Operand} {ts : Array TypeId} {xs : List Opd} (hop : o.op = .call { callee := .builtin .max, args := args, argTypes := ts }) (hx : opds h args.toList = some xs)
  (hr : TRel cx ρ lam h.isLoc h.derOf H w T a) {z : SV} (hz : opP .max (xs.map (·.ev T)) = some z) : RunsTo P ρ H.size a w o z := by
 have ex := ev_opds hr hx
 simp only [opP] at hz
 generalize xs.map (·.ev T) = sx at *
 cases sx with
 | nil => simp [maxI] at hz
 | cons x sx =>
  cases x <;> simp only [maxI] at hz <;> (try cases hz)
  cases he : args.toList.map a.eval with
  | nil => rw [he] at ex; simp [VRL] at ex
  | cons v vs =>
   rw [he] at ex
   simp only [VRL] at ex
   have := ex.1.int_of
   subst this
   obtain ⟨h1, h2⟩ := maxFrom_ok (P := P) (w := w) _ _ _ _ _ ex.2 hz
   refine ⟨_, ?_, .of h2⟩
   simp [execOp, hop, resolve, invoke, builtin, Builtin.max_, he, h1]
theorem A_min {o : Oper} {args : Array Operand} {ts : Array TypeId} {xs : List Opd} (hop : o.op = .call { callee := .builtin .min, args := args, argTypes := ts }) (hx : opds h args.toList = some xs)
  (hr : TRel cx ρ lam h.isLoc h.derOf H w T a) {z : SV} (hz : opP .min (xs.map (·.ev T)) = some z) : RunsTo P ρ H.size a w o z := by
 have ex := ev_opds hr hx
 simp only [opP] at hz
 generalize xs.map (·.ev T) = sx at *
 cases sx with
 | nil => simp [minI] at hz
 | cons x sx =>
  cases x <;> simp only [minI] at hz <;> (try cases hz)
  cases he : args.toList.map a.eval with
  | nil => rw [he] at ex; simp [VRL] at ex
  | cons v vs =>
   rw [he] at ex
   simp only [VRL] at ex
   have := ex.1.int_of
   subst this
   obtain ⟨h1, h2⟩ := minFrom_ok (P := P) (w := w) _ _ _ _ _ ex.2 hz
   refine ⟨_, ?_, .of h2⟩
   simp [execOp, hop, resolve, invoke, builtin, Builtin.min_, he, h1]
end
end Go.Sh

/- Functions. -/
import Derived.Test.YtpdkfleleebdaaaGreatDoorSh18
set_option linter.unusedVariables false
set_option linter.unusedSimpArgs false
namespace Go.Sh
open Go
section
variable {P : Program} {h : Hints} {cx : Ctx} {ρ : Place} {lam : Nat -> Nat} {T : Tmps} {H : Heap} {a : Act} {w : World} {C : CallC}
def resOne (tmps : Array Value) : ResultVar -> Sem Value
 | .tmp t => pure (tmps.getD t Go.undef)
 | .cell a t => do loadVar t (<- asAddr (tmps.getD a Go.undef))
theorem res_one {rv : ResultVar} {rs : Res} (hc : compRes P h [rv] = some [rs]) (hr : TRel cx ρ lam h.isLoc h.derOf H w T a) {y : SV} (hy : rs.of (getT T rs.slot) = some y) :
  (resOne a.tmps rv).run P w = .ok (conc ρ y) w /\ okSV ρ H.size y := by
 cases rv with
 | tmp t =>
  simp only [compRes, Option.map_some, Option.some.injEq, List.cons.injEq, and_true] at hc
  subst hc
  simp only [Res.of, Res.slot] at hy
  cases hg : (getT T t).good with
  | false => rw [hg] at hy; simp at hy
  | true =>
   rw [hg] at hy
   simp only [cond_true, Option.some.injEq] at hy
   subst hy
   obtain ⟨s1, s2⟩ := slot_of hr (t := t) (by intro e; rw [e] at hg; simp [SV.good] at hg)
   have : okSV ρ H.size (getT T t) /\ a.tmps.getD t Go.undef = conc ρ (getT T t) := by
    generalize getT T t = x at *
    cases x <;> first | exact s1 | (simp [SV.good] at hg; done)
   exact ⟨by simp only [resOne]; rw [this.2]; rfl, this.1⟩
 | cell t ty =>
  simp only [compRes, Option.bind_eq_some_iff, Option.map_some] at hc
  obtain ⟨n, hn, ag, hag, hc⟩ := hc
  cases hl : h.isLoc t with
  | false => rw [hl] at hc; simp at hc
  | true =>
   rw [hl] at hc
   simp only [cond_true, Option.some.injEq, List.cons.injEq, and_true] at hc
   subst hc
   simp only [Res.of, Res.slot] at hy
   have hj : getT T t ≠ .junk := by intro e; rw [e] at hy; simp at hy
   obtain ⟨s1, s2⟩ := slot_of hr hj
   generalize getT T t = sx at *
   cases sx <;> simp only [Option.bind_eq_some_iff, reduceCtorEq] at hy
   rename_i cs
   obtain ⟨l, hl1, hl2⟩ := hy
   simp only [SlotRel] at s1
   obtain ⟨h1, h2, h3, h4⟩ := box_cut (hr.box t cs s2) hl1
   have hld := run_loadAt (P := P) (w := w) (ρ := ρ) (n := H.size) (lam t) 0 hag hn h4 hl2 h2 h3 h1
   refine ⟨?_, hld.2⟩
   simp only [resOne]
   rw [s1]
   have := hld.1
   simpa [Instr.loadAt, Instr.sureAddr, asAddr] using this
theorem res_all {r : SV × Heap} (hr : TRel cx ρ lam h.isLoc h.derOf H w T a) : ∀ {l : List ResultVar} {rl : List Res} {k : List SV -> Option (SV × Heap)}, compRes P h l = some rl -> resK T rl k = some r ->
  ∃ ys, k ys = some r /\ ys.length = l.length /\ (l.mapM (resOne a.tmps)).run P w = .ok (concL ρ ys) w /\ okL ρ H.size ys
 | [], rl, k, hc, hk => by
  simp only [compRes, Option.some.injEq] at hc
  subst hc
  exact ⟨[], hk, rfl, rfl, by simp [okL]⟩
 | rv :: l, rl, k, hc, hk => by
  have hsplit : ∃ r1 rl', rl = r1 :: rl' /\ compRes P h [rv] = some [r1] /\ compRes P h l = some rl' := by
   cases rv with
   | tmp t =>
    simp only [compRes, Option.map_eq_some_iff] at hc
    obtain ⟨rl', h1, rfl⟩ := hc
    exact ⟨_, _, rfl, by simp [compRes], h1⟩
   | cell t ty =>
    simp only [compRes, Option.bind_eq_some_iff] at hc
    obtain ⟨n, hn, ag, hag, hc⟩ := hc
    cases hl : h.isLoc t with
    | false => rw [hl] at hc; simp at hc
    | true =>
     rw [hl] at hc
     simp only [cond_true, Option.map_eq_some_iff] at hc
     obtain ⟨rl', h1, rfl⟩ := hc
     exact ⟨_, _, rfl, by simp [compRes, hn, hag, hl], h1⟩
  obtain ⟨r1, rl', rfl, h1, h2⟩ := hsplit
  simp only [resK, Option.bind_eq_some_iff] at hk
  obtain ⟨y, hy, hk⟩ := hk
  obtain ⟨e1, o1⟩ := res_one h1 hr hy
  obtain ⟨ys, hys, hlen, e2, o2⟩ := res_all hr h2 hk
  refine ⟨y :: ys, hys, by simp [hlen], ?_, by simp only [okL]; exact ⟨o1, o2⟩⟩
  rw [List.mapM_cons]
  simp only [Sem.run_bind, e1, e2, Result.andThen, concL]
  rfl
theorem results_ok {fn : Func} {rl : List Res} {r : SV} {H' : Heap} (hc : compRes P h fn.results.toList = some rl) (hr : TRel cx ρ lam h.isLoc h.derOf H w T a) (hk : retK rl T H = some (r, H')) :
  H' = H /\ okSV ρ H.size r /\ (results fn a.tmps).run P w = .ok (conc ρ r) w := by
 unfold retK at hk
 obtain ⟨ys, h1, h2, h3, h4⟩ := res_all (k := fun vs => some (oneOf vs, H)) hr hc hk
 simp only [Option.some.injEq, Prod.mk.injEq] at h1
 obtain ⟨rfl, rfl⟩ := h1
 refine ⟨rfl, ?_, ?_⟩
 ·match ys, h4 with
  | [], _ => simp [oneOf, okSV, okL]
  | [v], h4 => simp only [okL] at h4; exact h4.1
  | v :: u :: l, h4 => simp only [oneOf, okSV]; exact h4
 ·have hm : (fn.results.mapM (resOne a.tmps)).run P w = .ok (concL ρ ys).toArray w := by
   have e : fn.results.mapM (resOne a.tmps) = (do let l <- fn.results.toList.mapM (resOne a.tmps); pure l.toArray) := by
    rw [Array.mapM_eq_mapM_toList, map_eq_pure_bind]
   rw [e, Sem.run_bind, h3]
   rfl
  have hres : results fn a.tmps = (do let vs <- fn.results.mapM (resOne a.tmps); pure (if h : vs.size = 1 then vs[0] else .tuple vs)) := by
   unfold results
   rfl
  rw [hres, Sem.run_bind, hm]
  match ys with
  | [] => simp [concL, oneOf, conc, Result.andThen]
  | [v] => simp [concL, oneOf, Result.andThen]
  | v :: u :: l => simp [concL, oneOf, conc, Result.andThen]
theorem HRel.fresh {cx : Ctx} (hr : HRel cx ρ H w) : HRel ⟨w, H, ρ⟩ ρ H w :=
 ⟨rfl, rfl, rfl, Nat.le_refl _, fun _ _ _ => rfl, hr.rows, fun r row hg hk => .inl ⟨r, row, hg, hk, rfl⟩, hr.sep, HExt.refl H, fun _ _ => rfl⟩
theorem TRel.first {xs : List SV} {vs : List Value} (hv : VRL ρ H.size xs vs) (n : Nat) : TRel ⟨w, H, ρ⟩ ρ lam h.isLoc h.derOf H w (xs ++ List.replicate n .junk) { tmps := vs.toArray ++ Array.replicate n Go.undef, defers := [] } := by
 have hlen := VRL.length hv
 have hbox : ∀ (t : Nat) (cs : List SV), (xs ++ List.replicate n SV.junk)[t]? ≠ some (SV.box cs) := fun t cs hx => by
  rw [List.getElem?_append] at hx
  split at hx
  ·rename_i hlt
   have := VRL.get hv t _ (vs[t]'(by omega)) hx (by simp)
   rcases this with e | ⟨e, _⟩
   ·cases e
   ·simp [okSV] at e
  ·rw [List.getElem?_replicate] at hx
   split at hx <;> simp at hx
 refine ⟨by simp [hlen], fun t v hx => ?_, fun t cs hx => absurd hx (hbox t cs), fun t t' cs cs' hx => absurd hx (hbox t cs), fun t cs hx => absurd hx (hbox t cs), fun t cs hx => absurd hx (hbox t cs), fun t cs hx => absurd hx (hbox t cs), rfl⟩
 rw [List.getElem?_append] at hx
 split at hx
 ·rename_i hlt
  have hlt' : t < vs.length := by omega
  have hh := VRL.get hv t v (vs[t]) hx (by simp [hlt'])
  have e : (vs.toArray ++ Array.replicate n Go.undef).getD t Go.undef = vs[t] := by
   simp [Array.getD_eq_getD_getElem?, Array.getElem?_append, hlt']
  show SlotRel ρ lam h.derOf H.size t v _
  rw [e]
  exact (VR.slot hh).2
 ·rw [List.getElem?_replicate] at hx
  split at hx
  ·cases hx; trivial
  ·cases hx
theorem compFn_ok {fn : Func} {cf : Fn} (hc : compFn P h fn = some cf) : ∃ c, fn.body = some c /\ compCode P h c = some cf.body /\ compRes P h fn.results.toList = some cf.res /\ (fn.name == "runtime.NumGoroutine") = false /\ 
  fn.params.size + fn.nfree <= fn.ntmps /\ h.nt = fn.ntmps /\ cf.nparams = fn.params.size + fn.nfree /\ cf.ntmps = fn.ntmps := by
 unfold compFn at hc
 split at hc
 ·cases hc
 ·rename_i c hb
  simp only [Option.bind_eq_some_iff] at hc
  obtain ⟨b, hb', r, hr, hc⟩ := hc
  cases hn : (fn.name == "runtime.NumGoroutine") with
  | true => rw [hn] at hc; simp at hc
  | false =>
   rw [hn] at hc
   simp only [cond_false] at hc
   split at hc
   ·rename_i hle
    simp only [Option.some.injEq] at hc
    subst hc
    exact ⟨c, hb, hb', hr, rfl, hle.1, hle.2, rfl, rfl⟩
   ·cases hc
theorem runFn_sound (hC : CallOK P C) (hD : DrawSound P h C) {f : FuncId} {fn : Func} {cf : Fn} (hf : P.funcs[f]? = some fn) (hc : compFn P h fn = some cf) (K : Nat) {xs : List SV} {vs : List Value} {r : SV} {H' : Heap} (hlen : xs.length = cf.nparams)
  (hrun : runFn cf K C xs H = some (r, H')) {cx : Ctx} (hr : HRel cx ρ H w) (hv : VRL ρ H.size xs vs) :
  Calls P f vs.toArray w fun e w' => ∃ v ρ', e = .returned v /\ (∀ i, i < H.size -> ρ' i = ρ i) /\ okSV ρ' H'.size r /\ v = conc ρ' r /\ HRel ⟨w, H, ρ⟩ ρ' H' w' := by
 obtain ⟨c, h1, h2, h3, h4, h5, h6, h7, h8⟩ := compFn_ok hc
 have hl := VRL.length hv
 refine calls_of_wp hf h1 ?_
 unfold runFn at hrun
 rw [h7, h8] at hrun
 have hn : fn.ntmps - vs.toArray.size = fn.ntmps - (fn.params.size + fn.nfree) := by simp; omega
 rw [hn]
 have hex := exec_sound (h := h) (cx := ⟨w, H, ρ⟩) hC hD K c cf.body _ H { tmps := vs.toArray ++ Array.replicate (fn.ntmps - (fn.params.size + fn.nfree)) Go.undef, defers := [] } w _ _ _ h2 hrun
  ⟨ρ, fun _ => 0, hr.fresh, TRel.first hv _⟩ (by simp; omega)
 have done : ∀ a' w', Kn P h ⟨w, H, ρ⟩ (retK cf.res) (r, H') a' w' -> a'.defers = [] /\ ∃ v, (results fn a'.tmps).run P w' = .ok v w' /\ ∃ v' ρ', Ending.returned v = .returned v' /\ (∀ i, i < H.size -> ρ' i = ρ i) /\ okSV ρ' H'.size r /\ v' = conc ρ' r /\ HRel ⟨w, H, ρ⟩ ρ' H' w' := fun a' w' ⟨T', H'', ⟨ρ', lam', hr'⟩, hT', hk⟩ => by
  obtain ⟨rfl, o1, e1⟩ := results_ok h3 hr'.tmps hk
  exact ⟨hr'.tmps.nodefer, _, e1, _, ρ', rfl, fun i hi => hr'.heap.old i hi, o1, rfl, hr'.heap⟩
 refine Code.wp_mono (fun e a' w' hp => ?_) hex
 cases e with
 | normal => exact done a' w' hp
 | ret => exact done a' w' hp
 | exit id =>
  simp only [Post] at hp
  obtain ⟨_, _, _, _, hk⟩ := hp
  cases hk
 | goto l => exact hp.elim
 | panic ch => exact hp.elim
 | outgrown => exact hp.elim
def Comp (P : Program) (fns : Nat -> Option Fn) : Prop := ∀ f cf, fns f = some cf -> ∃ h fn, P.funcs[f]? = some fn /\ compFn P h fn = some cf
end
end Go.Sh

/- Every operation. Every operation: the one theorem. Code. -/
import Derived.Test.YtkgbokkeemjkkaaGreatSh13
set_option linter.unusedVariables false
set_option linter.unusedSimpArgs false
namespace Go.Sh
open Go
def callVS (C : CallC) (xs : List SV) (H : Heap) : Option (SV × Heap) :=
 match xs with
 | .fn f bound caps :: args => C f (bound ++ (args ++ caps)) H
 | _ => none
def semK (C : CallC) (k : K) (xs : List SV) (H : Heap) : Option (SV × Heap) :=
 match k with
 | .p pk => (opP pk xs).map (·, H)
 | .b bk => (opB bk xs).map fun cs => (.box cs, H)
 | .r rk => (opR rk xs H).map (·, H)
 | .e ek => opE ek xs H
 | .call f => C f xs H
 | .callv => callVS C xs H
structure CallOK (P : Program) (C : CallC) : Prop where
 fn : ∀ g xs H r H', C g xs H = some (r, H') -> ∃ fn, P.funcs[g]? = some fn /\ (fn.name == "runtime.NumGoroutine") = false /\ fn.body.isNone = false
 calls : ∀ g xs H r H', C g xs H = some (r, H') -> ∀ cx ρ w vs, HRel cx ρ H w -> VRL ρ H.size xs vs ->
  Calls P g vs.toArray w fun e w' => ∃ v ρ', e = .returned v /\ (∀ i, i < H.size -> ρ' i = ρ i) /\ okSV ρ' H'.size r /\ v = conc ρ' r /\ HRel ⟨w, H, ρ⟩ ρ' H' w'
section
variable {P : Program} {h : Hints} {cx : Ctx} {ρ : Place} {lam : Nat -> Nat} {T : Tmps} {H : Heap} {a : Act} {w : World} {C : CallC}
def After (P : Program) (h : Hints) (cx : Ctx) (T' : Tmps) (H' : Heap) (a' : Act) (w' : World) : Prop := ∃ ρ' lam', Rel P h cx ρ' lam' T' H' a' w'
theorem Does.wp {o : Oper} {T' : Tmps} {H' : Heap} (hd : Does P h cx a w o T' H') (Q : Exit -> Act -> World -> Prop) : o.wp P a w (After P h cx T' H') Q := by
 obtain ⟨v, w', ρ', lam', h1, h2⟩ := hd
 unfold Oper.wp
 rcases h1 with h1 | ⟨h1, rfl⟩
 ·rw [h1]; exact ⟨ρ', lam', h2⟩
 ·rw [h1]; exact ⟨ρ', lam', h2⟩
theorem call_back (hr : Rel P h cx ρ lam T H a w) {ρ' : Place} {H' : Heap} {w' : World} {r : SV} (hρ : ∀ i, i < H.size -> ρ' i = ρ i) (hok : okSV ρ' H'.size r) (hh : HRel ⟨w, H, ρ⟩ ρ' H' w') (d : Option Nat) :
  Rel P h cx ρ' lam (setD T d r) H' (a.put d (conc ρ' r)) w' := by
 have hH : HRel cx ρ' H' w' := by
  refine ⟨hh.os.trans hr.heap.os, hh.tape.trans hr.heap.tape, hh.output.trans hr.heap.output, Nat.le_trans hr.heap.size hh.size, fun b hb hn => ?_, hh.rows, fun r row hg hk => ?_, hh.sep, hr.heap.ext.trans hh.ext, fun i hi => ?_⟩
  ·have hb' := Nat.lt_of_lt_of_le hb hr.heap.size
   rw [hh.keep b hb' (fun ⟨r, row, h1, h2, h3⟩ => by
    rcases hr.heap.own r row h1 h2 with h | h
    ·exact hn (h3 ▸ h)
    ·have : (ρ r).block = b := h3
     rw [this] at h
     exact absurd hb (by omega))]
   exact hr.heap.keep b hb hn
  ·rcases hh.own r row hg hk with ⟨r', row', h1, h2, h3⟩ | h
   ·have : (ρ r').block = (ρ' r).block := h3
    rw [<- this]
    exact hr.heap.own r' row' h1 h2
   ·exact .inr (Nat.le_trans hr.heap.size h)
  ·rw [hρ i (Nat.lt_of_lt_of_le hi hr.heap.ext.size)]; exact hr.heap.old i hi
 have hnotown : ∀ t cs, T[t]? = some (.box cs) -> ¬ Ctx.own ⟨w, H, ρ⟩ (lam t) := fun t cs ht ⟨r, row, h1, h2, h3⟩ => hr.tmps.boxrow t cs ht r row h1 (by omega) h3
 have hT : TRel cx ρ' lam h.isLoc h.derOf H' w' T a := by
  refine hr.tmps.heap hρ hh.ext.size (fun t cs ht => hh.keep _ (hr.tmps.box t cs ht).lt (hnotown t cs ht)) (fun t cs ht r row hg hk => ?_)
  by_cases hlt : r < H.size
  ·have hx := hh.ext.rows r hlt
   simp only [hg] at hx
   cases hg0 : H.get r with
   | none => simp [hg0, RowExt] at hx
   | some row0 =>
    simp only [hg0, RowExt] at hx
    rw [hρ r hlt]
    exact hr.tmps.boxrow t cs ht r row0 hg0 (by rw [<- hx.2.2 hk]; exact hk)
  ·have hk2 := hh.ext.news r (Nat.le_of_not_lt hlt) row hg hk
   rcases hh.own r row hg hk2 with ⟨r', row', h1, h2, h3⟩ | h
   ·have : (ρ r').block = (ρ' r).block := h3
    rw [<- this]
    exact hr.tmps.boxrow t cs ht r' row' h1 (by omega)
   ·have := (hr.tmps.box t cs ht).lt
    have h' : w.heap.size <= (ρ' r).block := h
    omega
 exact ⟨hH, hT.put_vr d (.inr ⟨hok, rfl⟩)⟩
theorem call_wp (hC : CallOK P C) {o : Oper} {g : FuncId} {xs : List SV} {vs : List Value} {r : SV} {H' : Heap} (hrun : (execOp a.eval o).run P w = .ok (.enter g vs.toArray) w) (hv : VRL ρ H.size xs vs) (hz : C g xs H = some (r, H'))
  (hr : Rel P h cx ρ lam T H a w) (Q : Exit -> Act -> World -> Prop) : o.wp P a w (After P h cx (setD T o.dst r) H') Q := by
 unfold Oper.wp
 rw [hrun, Oper.upon_enter]
 refine (hC.calls g xs H r H' hz cx ρ w vs hr.heap hv).mono fun e w' hpost => ?_
 obtain ⟨v, ρ', rfl, h1, h2, rfl, h4⟩ := hpost
 exact ⟨ρ', lam, call_back hr h1 h2 h4 o.dst⟩
theorem run_callFunc {g : FuncId} {fn : Func} {args : Array Value} (hf : P.funcs[g]? = some fn) (hn : (fn.name == "runtime.NumGoroutine") = false) (hb : fn.body.isNone = false) : (callFunc g args).run P w = .ok (.enter g args) w := by
 have hn' : ¬ fn.name = "runtime.NumGoroutine" := by simpa using hn
 have hb' : ¬ fn.body = none := by intro e; rw [e] at hb; simp at hb
 simp [callFunc, hf, hn', hb']
theorem VRL.append {n : Nat} : ∀ {xs ys : List SV} {vs us : List Value}, VRL ρ n xs vs -> VRL ρ n ys us -> VRL ρ n (xs ++ ys) (vs ++ us)
 | [], _, [], _, _, h2 => h2
 | x :: xs, _, v :: vs, _, h1, h2 => ⟨h1.1, VRL.append h1.2 h2⟩
 | [], _, _ :: _, _, h1, _ => by simp [VRL] at h1
 | _ :: _, _, [], _, h1, _ => by simp [VRL] at h1
theorem VRL.of_ok {n : Nat} : ∀ {xs : List SV}, okL ρ n xs -> VRL ρ n xs (concL ρ xs)
 | [], _ => by simp [VRL, concL]
 | x :: xs, h => by
  simp only [okL] at h
  exact ⟨.inr ⟨h.1, rfl⟩, VRL.of_ok h.2⟩
theorem A_strcut {o : Oper} {t : TypeId} {x : Operand} {lo hi : Option Operand} {x' : Opd} {l1 l2 : List Opd} (hop : o.op = .slice t x lo hi none) (ht : P.underlying t = some .string) (hx : opd h x = some x') (h1 : optOpd h lo = some l1) (h2 : optOpd h hi = some l2)
  (hr : TRel cx ρ lam h.isLoc h.derOf H w T a) {z : SV} (hz : opP (.strcut lo.isSome hi.isSome) ((x' :: (l1 ++ l2)).map (·.ev T)) = some z) : RunsTo P ρ H.size a w o z := by
 have ex := ev_opd hr hx
 have hext : ∀ (s : List UInt8) (i j : Nat), (ByteArray.mk s.toArray).extract i j = ByteArray.mk ((s.take j).drop i).toArray := fun s i j => by
  apply ByteArray.ext
  simp [ByteArray.data_extract, List.drop_take]
 rcases VR.optInt hr h1 with ⟨rfl, rfl⟩ | ⟨y1, o1, rfl, rfl, e1⟩ <;> rcases VR.optInt hr h2 with ⟨rfl, rfl⟩ | ⟨y2, o2, rfl, rfl, e2⟩
 ·simp [opP] at hz
 ·simp only [Option.isSome_none, Option.isSome_some, List.nil_append, List.map_cons, List.map_nil] at hz
  generalize x'.ev T = sx at *
  generalize o2.ev T = s2 at *
  cases sx <;> cases s2 <;> simp only [opP] at hz <;> (try cases hz)
  rename_i s k b
  split at hz <;> simp at hz
  rename_i hc
  subst hz
  have hb := e2.int_of
  obtain ⟨_, ee⟩ := ex.ne (by simp)
  refine ⟨_, ?_, .inr ⟨by simp [okSV], rfl⟩⟩
  have hle : b <= (ByteArray.mk s.toArray).size := by simpa [ByteArray.size] using hc.2
  simp [execOp, hop, ee, hb, conc, Instr.sliceAt, Instr.slice, run_underlying ht, Instr.sliceBounds, run_sliceBound, hc.1, hle, hext]
 ·simp only [Option.isSome_none, Option.isSome_some, List.append_nil, List.map_cons, List.map_nil] at hz
  generalize x'.ev T = sx at *
  generalize o1.ev T = s1 at *
  cases sx <;> cases s1 <;> simp only [opP] at hz <;> (try cases hz)
  rename_i s k b
  split at hz <;> simp at hz
  rename_i hc
  subst hz
  have hb := e1.int_of
  obtain ⟨_, ee⟩ := ex.ne (by simp)
  refine ⟨_, ?_, .inr ⟨by simp [okSV], rfl⟩⟩
  have hle : b <= (ByteArray.mk s.toArray).size := by simpa [ByteArray.size] using hc.2
  have htk : s.take (ByteArray.mk s.toArray).size = s := List.take_of_length_le (by simp [ByteArray.size])
  simp [execOp, hop, ee, hb, conc, Instr.sliceAt, Instr.slice, run_underlying ht, Instr.sliceBounds, run_sliceBound, hc.1, hle, hext, htk]
 ·simp only [Option.isSome_some, List.map_cons, List.map_nil, List.cons_append, List.nil_append] at hz
  generalize x'.ev T = sx at *
  generalize o1.ev T = s1 at *
  generalize o2.ev T = s2 at *
  cases sx <;> cases s1 <;> cases s2 <;> simp only [opP] at hz <;> (try cases hz)
  rename_i s k b k' b'
  split at hz <;> simp at hz
  rename_i hc
  subst hz
  have hb := e1.int_of
  have hb' := e2.int_of
  obtain ⟨_, ee⟩ := ex.ne (by simp)
  refine ⟨_, ?_, .inr ⟨by simp [okSV], rfl⟩⟩
  have hle : b' <= (ByteArray.mk s.toArray).size := by simpa [ByteArray.size] using hc.2.1
  have eb : (b'.toNat : Int) = b' := Int.toNat_of_nonneg hc.1
  simp [execOp, hop, ee, hb, hb', conc, Instr.sliceAt, Instr.slice, run_underlying ht, Instr.sliceBounds, run_sliceBound, hc.1, hc.2.2.1, hc.2.2.2, hle, hext, eb]
theorem opds_one {x : Operand} {ys : List Opd} (ho : opds h [x] = some ys) : ∃ y, opd h x = some y /\ ys = [y] := by
 simp only [opds, Option.bind_eq_some_iff, Option.map_eq_some_iff] at ho
 obtain ⟨y, hy, ys', hys, rfl⟩ := ho
 simp only [Option.some.injEq] at hys
 subst hys
 exact ⟨y, hy, rfl⟩
theorem opds_two {x z : Operand} {ys : List Opd} (ho : opds h [x, z] = some ys) : ∃ y1 y2, opd h x = some y1 /\ opd h z = some y2 /\ ys = [y1, y2] := by
 simp only [opds, Option.bind_eq_some_iff, Option.map_eq_some_iff] at ho
 obtain ⟨y, hy, ys', ⟨y', hy', ys'', hys, rfl⟩, rfl⟩ := ho
 simp only [Option.some.injEq] at hys
 subst hys
 exact ⟨y, y', hy, hy', rfl⟩
theorem opds_len : ∀ {l : List Operand} {ys : List Opd}, opds h l = some ys -> ys.length = l.length
 | [], ys, ho => by simp [opds] at ho; subst ho; rfl
 | x :: l, ys, ho => by
  simp only [opds, Option.bind_eq_some_iff, Option.map_eq_some_iff] at ho
  obtain ⟨y, hy, ys', hys, rfl⟩ := ho
  simp [opds_len hys]
def Good (P : Program) (h : Hints) (cx : Ctx) (C : CallC) (T : Tmps) (H : Heap) (a : Act) (w : World) (o : Oper) (r : K × List Opd × Option Nat × List Nat) : Prop :=
 ∀ y H', semK C r.1 (r.2.1.map (·.ev T)) H = some (y, H') -> ∀ Q, o.wp P a w (After P h cx (setD (clear T r.2.2.2) r.2.2.1 y) H') Q
theorem good_plain {o : Oper} {r : K × List Opd × Option Nat × List Nat} (hr : Rel P h cx ρ lam T H a w) (hd : r.2.2 = (o.dst, []))
  (hs : ∀ y H', semK C r.1 (r.2.1.map (·.ev T)) H = some (y, H') -> H' = H /\ RunsTo P ρ H.size a w o y) : Good P h cx C T H a w o r := by
 intro y H' hz Q
 obtain ⟨rfl, hrun⟩ := hs y H' hz
 rw [show r.2.2.2 = [] by rw [hd], show r.2.2.1 = o.dst by rw [hd]]
 exact (Does.plain hr hrun []).wp Q
theorem good_p {o : Oper} {pk : PK} {args : List Opd} (hr : Rel P h cx ρ lam T H a w) (hs : ∀ y, opP pk (args.map (·.ev T)) = some y -> RunsTo P ρ H.size a w o y) : Good P h cx C T H a w o (.p pk, args, o.dst, []) :=
 good_plain hr rfl fun y H' hz => by
  simp only [semK, Option.map_eq_some_iff, Prod.mk.injEq] at hz
  obtain ⟨y', h1, rfl, rfl⟩ := hz
  exact ⟨rfl, hs _ h1⟩
theorem good_r {o : Oper} {rk : RK} {args : List Opd} (hr : Rel P h cx ρ lam T H a w) (hs : ∀ y, opR rk (args.map (·.ev T)) H = some y -> RunsTo P ρ H.size a w o y) : Good P h cx C T H a w o (.r rk, args, o.dst, []) :=
 good_plain hr rfl fun y H' hz => by
  simp only [semK, Option.map_eq_some_iff, Prod.mk.injEq] at hz
  obtain ⟨y', h1, rfl, rfl⟩ := hz
  exact ⟨rfl, hs _ h1⟩
theorem good_does {o : Oper} {r : K × List Opd × Option Nat × List Nat} (hs : ∀ y H', semK C r.1 (r.2.1.map (·.ev T)) H = some (y, H') -> Does P h cx a w o (setD (clear T r.2.2.2) r.2.2.1 y) H') : Good P h cx C T H a w o r :=
 fun y H' hz Q => (hs y H' hz).wp Q
theorem good_e {o : Oper} {ek : EK} {args : List Opd} (hs : ∀ y H', opE ek (args.map (·.ev T)) H = some (y, H') -> Does P h cx a w o (setD T o.dst y) H') : Good P h cx C T H a w o (.e ek, args, o.dst, []) :=
 good_does hs
theorem good_builtin {o : Oper} {b : Builtin} {args : Array Operand} {ts : Array TypeId} {r : K × List Opd × Option Nat × List Nat} (hop : o.op = .call { callee := .builtin b, args := args, argTypes := ts }) (hc : compBuiltin P h o b args ts = some r)
  (hr : Rel P h cx ρ lam T H a w) : Good P h cx C T H a w o r := by
 simp only [compBuiltin, Option.bind_eq_some_iff] at hc
 obtain ⟨xs, hx, hc⟩ := hc
 have hlen := opds_len hx
 split at hc
 ·rename_i t hts
  have ets : ts = #[t] := Array.ext' (by simpa using hts)
  subst ets
  split at hc
  ·rename_i e hu
   rw [<- mkOp_eq hc |>.symm]
   refine good_p hr fun y hy => ?_
   obtain ⟨x, hax⟩ : ∃ x, args = #[x] := by
    match xs, hy with
    | [x'], hy =>
     have : args.size = 1 := by simpa using hlen.symm
     exact ⟨args[0], Array.ext (by simpa using this) (fun i h1 h2 => by simp at h2; subst h2; rfl)⟩
    | [], hy => simp [opP] at hy
    | [_, _], hy => simp [opP] at hy
    | _ :: _ :: _ :: _, hy => simp [opP] at hy
   subst hax
   obtain ⟨x', hx', rfl⟩ := opds_one (by simpa using hx)
   exact A_len hop hu hx' hr.tmps hy
  ·rename_i hu
   rw [<- mkOp_eq hc |>.symm]
   refine good_p hr fun y hy => ?_
   obtain ⟨x, hax⟩ : ∃ x, args = #[x] := by
    match xs, hy with
    | [x'], hy =>
     have : args.size = 1 := by simpa using hlen.symm
     exact ⟨args[0], Array.ext (by simpa using this) (fun i h1 h2 => by simp at h2; subst h2; rfl)⟩
    | [], hy => simp [opP] at hy
    | [_, _], hy => simp [opP] at hy
    | _ :: _ :: _ :: _, hy => simp [opP] at hy
   subst hax
   obtain ⟨x', hx', rfl⟩ := opds_one (by simpa using hx)
   exact A_slen hop hu hx' hr.tmps hy
  ·cases hc
 ·rename_i t u hts
  have ets : ts = #[t, u] := Array.ext' (by simpa using hts)
  subst ets
  split at hc
  ·rename_i e e' hu1 hu2
   simp only [Option.bind_eq_some_iff] at hc
   obtain ⟨z, hz, by_, hb, hc⟩ := hc
   rw [<- mkOp_eq hc |>.symm]
   refine good_e fun y H' hy => ?_
   match xs, hy, hx, hlen with
   | [s', x'], hy, hx, hlen =>
    have hsz : args.size = 2 := by simpa using hlen.symm
    obtain ⟨s, x, rfl⟩ : ∃ s x, args = #[s, x] := ⟨args[0], args[1], Array.ext (by simpa using hsz) (fun i h1 h2 => by simp at h2; match i, h2 with | 0, _ => rfl | 1, _ => rfl)⟩
    obtain ⟨s1, x1, hs1, hx1, he⟩ := opds_two (by simpa using hx)
    simp only [List.cons.injEq, and_true] at he
    obtain ⟨rfl, rfl⟩ := he
    have es := ev_opd hr.tmps hs1
    have ex := ev_opd hr.tmps hx1
    simp only [List.map_cons, List.map_nil] at hy
    generalize s'.ev T = ss at *
    generalize x'.ev T = sx at *
    cases ss <;> cases sx <;> simp only [opE, Option.bind_eq_some_iff] at hy <;> (try cases hy)
    rename_i sl xl src hy
    exact E_append hop hu1 hz hb es (src_slice hu2 ex hr.heap hy.1) hr hy.2
   | [], hy, _, _ => simp [opE] at hy
   | [_], hy, _, _ => simp [opE] at hy
   | _ :: _ :: _ :: _, hy, _, _ => simp [opE] at hy
  ·rename_i e hu1 hu2
   simp only [Option.bind_eq_some_iff] at hc
   obtain ⟨z, hz, by_, hb, hc⟩ := hc
   split at hc
   rotate_left
   ·cases hc
   rename_i hz1
   rw [<- mkOp_eq hc |>.symm]
   refine good_e fun y H' hy => ?_
   match xs, hy, hx, hlen with
   | [s', x'], hy, hx, hlen =>
    have hsz : args.size = 2 := by simpa using hlen.symm
    obtain ⟨s, x, rfl⟩ : ∃ s x, args = #[s, x] := ⟨args[0], args[1], Array.ext (by simpa using hsz) (fun i h1 h2 => by simp at h2; match i, h2 with | 0, _ => rfl | 1, _ => rfl)⟩
    obtain ⟨s1, x1, hs1, hx1, he⟩ := opds_two (by simpa using hx)
    simp only [List.cons.injEq, and_true] at he
    obtain ⟨rfl, rfl⟩ := he
    have es := ev_opd hr.tmps hs1
    have ex := ev_opd hr.tmps hx1
    simp only [List.map_cons, List.map_nil] at hy
    generalize s'.ev T = ss at *
    generalize x'.ev T = sx at *
    cases ss <;> cases sx <;> first | (simp only [opE, reduceCtorEq] at hy; done) | skip
    rename_i sl xl
    simp only [opE] at hy
    exact E_append hop hu1 hz hb es (by rw [hz1]; exact src_str hu2 ex) hr (by rw [hz1]; exact hy)
   | [], hy, _, _ => simp [opE] at hy
   | [_], hy, _, _ => simp [opE] at hy
   | _ :: _ :: _ :: _, hy, _, _ => simp [opE] at hy
  ·cases hc
 ·rename_i t u hts
  have ets : ts = #[t, u] := Array.ext' (by simpa using hts)
  subst ets
  split at hc
  ·rename_i e e' hu1 hu2
   simp only [Option.bind_eq_some_iff] at hc
   obtain ⟨n, hn, hc⟩ := hc
   rw [<- mkOp_eq hc |>.symm]
   refine good_e fun y H' hy => ?_
   match xs, hy, hx, hlen with
   | [s', x'], hy, hx, hlen =>
    have hsz : args.size = 2 := by simpa using hlen.symm
    obtain ⟨s, x, rfl⟩ : ∃ s x, args = #[s, x] := ⟨args[0], args[1], Array.ext (by simpa using hsz) (fun i h1 h2 => by simp at h2; match i, h2 with | 0, _ => rfl | 1, _ => rfl)⟩
    obtain ⟨s1, x1, hs1, hx1, he⟩ := opds_two (by simpa using hx)
    simp only [List.cons.injEq, and_true] at he
    obtain ⟨rfl, rfl⟩ := he
    exact E_copy hop hu1 hn hs1 hx1 hr hy
   | [], hy, _, _ => simp [opE] at hy
   | [_], hy, _, _ => simp [opE] at hy
   | _ :: _ :: _ :: _, hy, _, _ => simp [opE] at hy
  ·cases hc
 ·rw [<- mkOp_eq hc |>.symm]
  exact good_p hr fun y hy => A_max hop hx hr.tmps hy
 ·rw [<- mkOp_eq hc |>.symm]
  exact good_p hr fun y hy => A_min hop hx hr.tmps hy
 ·cases hc
end
end Go.Sh
namespace Go.Sh
open Go
section
variable {P : Program} {h : Hints} {cx : Ctx} {ρ : Place} {lam : Nat -> Nat} {T : Tmps} {H : Heap} {a : Act} {w : World} {C : CallC}
theorem good_of_does {o : Oper} {k : K} {args : List Opd} {d : Option Nat} {clr : List Nat} (hs : ∀ y H', semK C k (args.map (·.ev T)) H = some (y, H') -> Does P h cx a w o (setD (clear T clr) d y) H') : Good P h cx C T H a w o (k, args, d, clr) := good_does hs
theorem semK_p {pk : PK} {xs : List SV} {y : SV} {H' : Heap} (hz : semK C (.p pk) xs H = some (y, H')) : opP pk xs = some y /\ H' = H := by
 simp only [semK, Option.map_eq_some_iff, Prod.mk.injEq] at hz
 obtain ⟨y', h1, rfl, rfl⟩ := hz
 exact ⟨h1, rfl⟩
theorem semK_b {bk : BK} {xs : List SV} {y : SV} {H' : Heap} (hz : semK C (.b bk) xs H = some (y, H')) : ∃ cs, opB bk xs = some cs /\ y = .box cs /\ H' = H := by
 simp only [semK, Option.map_eq_some_iff, Prod.mk.injEq] at hz
 obtain ⟨cs, h1, rfl, rfl⟩ := hz
 exact ⟨cs, h1, rfl, rfl⟩
theorem good_call {o : Oper} {c : Call} {r : K × List Opd × Option Nat × List Nat} (hop : o.op = .call c) (hC : CallOK P C) (hc : compCall P h o c = some r) (hr : Rel P h cx ρ lam T H a w) : Good P h cx C T H a w o r := by
 obtain ⟨callee, args, ts⟩ := c
 unfold compCall at hc
 split at hc
 ·rename_i b hb
  simp only at hb
  subst hb
  exact good_builtin hop hc hr
 ·rename_i f hb
  simp only at hb
  subst hb
  simp only [Option.bind_eq_some_iff] at hc
  obtain ⟨xs, hx, hc⟩ := hc
  rw [<- mkOp_eq hc |>.symm]
  have ex := ev_opds hr.tmps hx
  intro y H' hz Q
  simp only [semK] at hz
  obtain ⟨fn, h1, h2, h3⟩ := hC.fn _ _ _ _ _ hz
  refine call_wp hC ?_ ex hz hr Q
  simp only [execOp, hop, resolve, Act.eval, Deferred.ofValue, Sem.run_bind, Sem.run_pure, Result.andThen_ok, invoke]
  rw [show (#[] ++ Array.map a.eval args ++ #[] : Array Value) = (args.toList.map a.eval).toArray by apply Array.ext'; simp]
  exact run_callFunc h1 h2 h3
 ·rename_i t hb
  simp only at hb
  subst hb
  simp only [Option.bind_eq_some_iff] at hc
  obtain ⟨xs, hx, hc⟩ := hc
  rw [<- mkOp_eq hc |>.symm]
  have ex := ev_opds hr.tmps hx
  intro y H' hz Q
  simp only [semK, List.map_cons, callVS, Opd.ev] at hz
  have hj : getT T t ≠ .junk := by intro e; rw [e] at hz; simp at hz
  obtain ⟨s1, s2⟩ := slot_of hr.tmps hj
  generalize getT T t = st at *
  cases st <;> first | (simp only [reduceCtorEq] at hz; done) | skip
  rename_i f bound caps
  simp only at hz
  simp only [SlotRel] at s1
  obtain ⟨o1, e1⟩ := s1
  simp only [okSV] at o1
  obtain ⟨fn, h1, h2, h3⟩ := hC.fn _ _ _ _ _ hz
  refine call_wp hC ?_ (VRL.append (VRL.of_ok o1.1) (VRL.append ex (VRL.of_ok o1.2))) hz hr Q
  have et : a.eval (.tmp t) = conc ρ (.fn f bound caps) := e1
  simp only [execOp, hop, resolve, et, conc, Deferred.ofValue, Sem.run_bind, Sem.run_pure, Result.andThen_ok, invoke]
  rw [show ((concL ρ bound).toArray ++ Array.map a.eval args ++ (concL ρ caps).toArray : Array Value) = (concL ρ bound ++ (args.toList.map a.eval ++ concL ρ caps)).toArray by
   apply Array.ext'; simp [List.append_assoc]]
  exact run_callFunc h1 h2 h3
 ·cases hc
theorem good_load {o : Oper} {t : TypeId} {x : Operand} {r : K × List Opd × Option Nat × List Nat} (hop : o.op = .load t x) (hc : compLoad P h o t x = some r) (hr : Rel P h cx ρ lam T H a w) : Good P h cx C T H a w o r := by
 simp only [compLoad, Option.bind_eq_some_iff] at hc
 obtain ⟨n, hn, ag, hag, hc⟩ := hc
 split at hc
 rotate_left
 ·cases hc
 rename_i u
 cases hl : h.isLoc u with
 | true =>
  rw [hl] at hc
  simp only [cond_true] at hc
  rw [<- mkOp_eq hc |>.symm]
  exact good_p hr fun y hy => A_lload hop hn hag hr.tmps rfl hy
 | false =>
  rw [hl] at hc
  simp only [cond_false] at hc
  split at hc
  ·rename_i b hb
   rw [<- mkOp_eq hc |>.symm]
   exact good_p hr fun y hy => A_lloadp hop hb hn hag hr.tmps hy
  ·rename_i hb
   rw [<- mkOp_eq hc |>.symm]
   exact good_r hr fun y hy => A_load hop hn hag (ev_tmp hr.tmps hl hb) hr.heap hy
theorem good_store {o : Oper} {t : TypeId} {x v : Operand} {r : K × List Opd × Option Nat × List Nat} (hop : o.op = .store t x v) (hc : compStore P h o t x v = some r) (hr : Rel P h cx ρ lam T H a w) : Good P h cx C T H a w o r := by
 simp only [compStore, Option.bind_eq_some_iff] at hc
 obtain ⟨n, hn, y, hy, hc⟩ := hc
 split at hc
 rotate_left
 ·cases hc
 rename_i u hd
 cases hl : h.isLoc u with
 | true =>
  rw [hl] at hc
  simp only [cond_true, Option.some.injEq] at hc
  subst hc
  refine good_of_does fun z H' hz => ?_
  obtain ⟨cs, h1, rfl, rfl⟩ := semK_b hz
  exact D_lstore hop hd hn hy hr h1
 | false =>
  rw [hl] at hc
  simp only [cond_false] at hc
  split at hc
  ·rename_i b hb
   simp only [Option.some.injEq] at hc
   subst hc
   refine good_of_does fun z H' hz => ?_
   obtain ⟨cs, h1, rfl, rfl⟩ := semK_b hz
   exact D_lstorep hop hd hb hn hy hr h1
  ·rename_i hb
   simp only [Option.some.injEq] at hc
   subst hc
   refine good_of_does fun z H' hz => ?_
   exact E_store hop hd hn (ev_tmp hr.tmps hl hb) hy hr hz
theorem good_field {o : Oper} {s : TypeId} {x : Operand} {f : Nat} {r : K × List Opd × Option Nat × List Nat} (hop : o.op = .fieldAddr s x f) (hc : compField P h o s x f = some r) (hr : Rel P h cx ρ lam T H a w) : Good P h cx C T H a w o r := by
 unfold compField at hc
 split at hc
 rotate_left
 ·cases hc
 rename_i fields hu
 split at hc
 rotate_left
 ·cases hc
 rename_i fl hf
 simp only [Option.bind_eq_some_iff] at hc
 obtain ⟨n, hn, hc⟩ := hc
 split at hc
 ·cases hc
 rename_i hn0
 split at hc
 rotate_left
 ·cases hc
 rename_i u
 cases hl : h.isLoc u with
 | true =>
  rw [hl] at hc
  simp only [cond_true] at hc
  cases hi : isDer h o u with
  | false => rw [hi] at hc; simp at hc
  | true =>
   rw [hi] at hc
   simp only [cond_true] at hc
   rw [<- mkOp_eq hc |>.symm]
   refine good_of_does fun z H' hz => ?_
   obtain ⟨h1, rfl⟩ := semK_p hz
   exact D_lfld hop hu hf hn hn0 hi hr h1
 | false =>
  rw [hl] at hc
  simp only [cond_false] at hc
  split at hc
  ·rename_i b hb
   cases hi : isDer h o b with
   | false => rw [hi] at hc; simp at hc
   | true =>
    rw [hi] at hc
    simp only [cond_true] at hc
    rw [<- mkOp_eq hc |>.symm]
    refine good_of_does fun z H' hz => ?_
    obtain ⟨h1, rfl⟩ := semK_p hz
    exact D_lfldp hop hb hu hf hn hn0 hi hr h1
  ·rename_i hb
   rw [<- mkOp_eq hc |>.symm]
   exact good_p hr fun y hy => A_fld hop hu hf hn hn0 (ev_tmp hr.tmps hl hb) hy
theorem good_indexAddr {o : Oper} {t : TypeId} {x i : Operand} {r : K × List Opd × Option Nat × List Nat} (hop : o.op = .indexAddr t x i) (hc : compIndexAddr P h o t x i = some r) (hr : Rel P h cx ρ lam T H a w) : Good P h cx C T H a w o r := by
 simp only [compIndexAddr, Option.bind_eq_some_iff] at hc
 obtain ⟨i', hi', hc⟩ := hc
 split at hc
 ·rename_i e hu
  simp only [Option.bind_eq_some_iff] at hc
  obtain ⟨n, hn, x', hx', hc⟩ := hc
  rw [<- mkOp_eq hc |>.symm]
  exact good_p hr fun y hy => A_idx hop hu hn hx' hi' hr.tmps hy
 ·rename_i len e hu
  simp only [Option.bind_eq_some_iff] at hc
  obtain ⟨n, hn, hc⟩ := hc
  split at hc
  rotate_left
  ·cases hc
  rename_i u
  cases hl : h.isLoc u with
  | true =>
   rw [hl] at hc
   simp only [cond_true] at hc
   cases hi : isDer h o u with
   | false => rw [hi] at hc; simp at hc
   | true =>
    rw [hi] at hc
    simp only [cond_true] at hc
    rw [<- mkOp_eq hc |>.symm]
    refine good_of_does fun z H' hz => ?_
    obtain ⟨h1, rfl⟩ := semK_p hz
    exact D_lidx hop hu hn hi' hi hr h1
  | false =>
   rw [hl] at hc
   simp only [cond_false] at hc
   split at hc
   ·rename_i b hb
    cases hi : isDer h o b with
    | false => rw [hi] at hc; simp at hc
    | true =>
     rw [hi] at hc
     simp only [cond_true] at hc
     rw [<- mkOp_eq hc |>.symm]
     refine good_of_does fun z H' hz => ?_
     obtain ⟨h1, rfl⟩ := semK_p hz
     exact D_lidxp hop hb hu hn hi' hi hr h1
   ·rename_i hb
    rw [<- mkOp_eq hc |>.symm]
    exact good_p hr fun y hy => A_pidx hop hu hn (ev_tmp hr.tmps hl hb) hi' hr.tmps hy
 ·cases hc
theorem good_slice {o : Oper} {t : TypeId} {x : Operand} {lo hi mx : Option Operand} {r : K × List Opd × Option Nat × List Nat} (hop : o.op = .slice t x lo hi mx) (hc : compSlice P h o t x lo hi mx = some r) (hr : Rel P h cx ρ lam T H a w) : Good P h cx C T H a w o r := by
  simp only [compSlice, Option.bind_eq_some_iff] at hc
  obtain ⟨x', hx', l1, h1, l2, h2, l3, h3, hc⟩ := hc
  split at hc
  · rename_i e hu
    simp only [Option.bind_eq_some_iff] at hc
    obtain ⟨n, hn, hc⟩ := hc
    rw [<- mkOp_eq hc |>.symm]
    refine good_r hr fun y hy => ?_
    have ex := ev_opd hr.tmps hx'
    have key : ∀ (oo : Option Operand) (l : List Opd), optOpd h oo = some l -> (oo = none /\ l = []) \/ ∃ y s, oo = some y /\ l.map (·.ev T) = [s] /\ VR ρ H.size s (a.eval y) := fun oo l hl => by
      rcases VR.optInt hr.tmps hl with h | ⟨y, o', h, h', h''⟩
      · exact .inl h
      · exact .inr ⟨y, _, h, by rw [h']; rfl, h''⟩
    simp only [List.map_cons, List.map_append] at hy
    rcases key lo l1 h1 with ⟨rfl, rfl⟩ | ⟨y1, s1, rfl, e1, v1⟩ <;> rcases key hi l2 h2 with ⟨rfl, rfl⟩ | ⟨y2, s2, rfl, e2, v2⟩ <;> rcases key mx l3 h3 with ⟨rfl, rfl⟩ | ⟨y3, s3, rfl, e3, v3⟩ <;>
      simp only [Option.isSome_none, Option.isSome_some, List.map_nil, List.nil_append, List.append_nil, *, List.cons_append] at hy <;>
      generalize hsx : x'.ev T = sx at * <;> cases sx <;> first
        | (simp only [opR, reduceCtorEq] at hy; done)
        | (simp only [opR] at hy
           exact A_slice hop hu hn ex (by first | exact .inl ⟨rfl, rfl⟩ | exact .inr ⟨_, _, rfl, rfl, v1⟩) (by first | exact .inl ⟨rfl, rfl⟩ | exact .inr ⟨_, _, rfl, rfl, v2⟩) (by first | exact .inl ⟨rfl, rfl⟩ | exact .inr ⟨_, _, rfl, rfl, v3⟩) hr.heap rfl hy)
  · rename_i hu
    cases hm : mx with
    | some m => rw [hm] at hc; simp at hc
    | none =>
      rw [hm] at hc
      simp only [Option.isSome_none, cond_false] at hc
      rw [<- mkOp_eq hc |>.symm]
      subst hm
      exact good_p hr fun y hy => A_strcut hop hu hx' h1 h2 hr.tmps hy
  · cases hc
theorem good_all {o : Oper} {r : K × List Opd × Option Nat × List Nat} (hC : CallOK P C) (hc : compK P h o = some r) (hr : Rel P h cx ρ lam T H a w) : Good P h cx C T H a w o r := by
 unfold compK at hc
 split at hc
 ·rename_i x hop
  simp only [Option.bind_eq_some_iff] at hc
  obtain ⟨y, hy, hc⟩ := hc
  rw [<- mkOp_eq hc |>.symm]
  exact good_p hr fun z hz => A_one hr.tmps hy (by simp [execOp, hop]) (by simpa [opP] using hz)
 ·rename_i x hop
  simp only [Option.bind_eq_some_iff] at hc
  obtain ⟨y, hy, hc⟩ := hc
  rw [<- mkOp_eq hc |>.symm]
  exact good_p hr fun z hz => A_one hr.tmps hy (by simp [execOp, hop]) (by simpa [opP] using hz)
 ·rename_i c x y hop
  simp only [Option.bind_eq_some_iff] at hc
  obtain ⟨c', hc', x', hx', y', hy', hc⟩ := hc
  rw [<- mkOp_eq hc |>.symm]
  exact good_p hr fun z hz => A_pick hop hc' hx' hy' hr.tmps hz
 ·rename_i op t x y ty hop
  obtain ⟨h1, k, h2, h3⟩ := A_bin (w := w) hop hc hr.tmps
  refine good_plain hr h1 fun y H' hz => ?_
  rw [h2] at hz
  obtain ⟨h4, rfl⟩ := semK_p hz
  exact ⟨rfl, h3 _ h4⟩
 ·rename_i op t x hop
  simp only [Option.bind_eq_some_iff] at hc
  obtain ⟨y, hy, hc⟩ := hc
  rw [<- mkOp_eq hc |>.symm]
  exact good_p hr fun z hz => A_un hop hy hr.tmps hz
 ·rename_i s d x hop
  simp only [compConv, Option.bind_eq_some_iff] at hc
  obtain ⟨y, hy, hc⟩ := hc
  split at hc
  ·rename_i k' k hs hd
   rw [<- mkOp_eq hc |>.symm]
   exact good_p hr fun z hz => A_conv hop hs hd hy hr.tmps hz
  ·rename_i e hs hd
   split at hc
   ·rename_i he
    rw [<- mkOp_eq hc |>.symm]
    exact good_r hr fun z hz => A_str hop hs he hd hy hr.tmps hr.heap hz
   ·cases hc
  ·cases hc
 ·rename_i x i hop
  simp only [Option.bind_eq_some_iff] at hc
  obtain ⟨y, hy, hc⟩ := hc
  rw [<- mkOp_eq hc |>.symm]
  exact good_p hr fun z hz => A_ext hop hy hr.tmps hz
 ·rename_i c hop
  exact good_call hop hC hc hr
 ·rename_i t x hop
  exact good_load hop hc hr
 ·rename_i t x v hop
  exact good_store hop hc hr
 ·rename_i t hop
  simp only [Option.bind_eq_some_iff] at hc
  obtain ⟨z, hz, hc⟩ := hc
  split at hc
  rotate_left
  ·cases hc
  rename_i d hd
  cases hl : h.isLoc d with
  | true =>
   rw [hl] at hc
   simp only [cond_true, Option.some.injEq] at hc
   subst hc
   refine good_of_does fun y H' hy => ?_
   obtain ⟨cs, h1, rfl, rfl⟩ := semK_b hy
   simp only [List.map_nil, opB, Option.some.injEq] at h1
   subst h1
   exact D_alloc hop hd hl hz hr
  | false =>
   rw [hl] at hc
   simp only [cond_false] at hc
   rw [<- mkOp_eq hc |>.symm]
   refine good_e fun y H' hy => ?_
   simp only [List.map_nil, opE, Option.some.injEq, Prod.mk.injEq] at hy
   obtain ⟨rfl, rfl⟩ := hy
   exact E_alloc hop hz hr
 ·rename_i t x hop
  simp only [Option.bind_eq_some_iff] at hc
  obtain ⟨x', hx', hc⟩ := hc
  split at hc
  rotate_left
  ·cases hc
  rename_i d hd
  cases hl : h.isLoc d with
  | true =>
   rw [hl] at hc
   simp only [cond_true, Option.some.injEq] at hc
   subst hc
   refine good_of_does fun y H' hy => ?_
   obtain ⟨cs, h1, rfl, rfl⟩ := semK_b hy
   exact D_box hop hd hl (ev_opd hr.tmps hx') h1 hr
  | false =>
   rw [hl] at hc
   simp only [cond_false] at hc
   rw [<- mkOp_eq hc |>.symm]
   exact good_e fun y H' hy => E_box hop (ev_opd hr.tmps hx') hr hy
 ·rename_i s x f hop
  exact good_field hop hc hr
 ·rename_i t x i hop
  exact good_indexAddr hop hc hr
 ·rename_i t x i hop
  simp only [compIndex, Option.bind_eq_some_iff] at hc
  obtain ⟨x', hx', i', hi', hc⟩ := hc
  split at hc
  ·rename_i hu
   rw [<- mkOp_eq hc |>.symm]
   exact good_p hr fun z hz => A_stridx hop hu hx' hi' hr.tmps hz
  ·rename_i len e hu
   simp only [Option.bind_eq_some_iff] at hc
   obtain ⟨n, hn, ag, hag, hc⟩ := hc
   rw [<- mkOp_eq hc |>.symm]
   exact good_p hr fun z hz => A_indexv hop hu hn hag hx' hi' hr.tmps hz
  ·cases hc
 ·rename_i s x f hop
  simp only [compFieldV, Option.bind_eq_some_iff] at hc
  obtain ⟨x', hx', hc⟩ := hc
  split at hc
  rotate_left
  ·cases hc
  rename_i fields hu
  split at hc
  rotate_left
  ·cases hc
  rename_i fl hf
  simp only [Option.bind_eq_some_iff] at hc
  obtain ⟨n, hn, ag, hag, hc⟩ := hc
  rw [<- mkOp_eq hc |>.symm]
  exact good_p hr fun z hz => A_fieldv hop hu hf hn hag hx' hr.tmps hz
 ·rename_i t ps hop
  simp only [compBuild, Option.bind_eq_some_iff] at hc
  obtain ⟨xs, hx, z, hz, hc⟩ := hc
  split at hc
  ·rename_i fields hu
   simp only [Option.bind_eq_some_iff] at hc
   obtain ⟨pl, hpl, hc⟩ := hc
   cases hs : sizesOk P fields with
   | false => rw [hs] at hc; simp at hc
   | true =>
    rw [hs] at hc
    simp only [cond_true] at hc
    rw [<- mkOp_eq hc |>.symm]
    exact good_p hr fun y hy => A_build hop hx hz (.inl ⟨fields, hu, hpl, hs⟩) hr.tmps hy
  ·rename_i len e hu
   simp only [Option.bind_eq_some_iff] at hc
   obtain ⟨n, hn, hc⟩ := hc
   rw [<- mkOp_eq hc |>.symm]
   exact good_p hr fun y hy => A_build hop hx hz (.inr ⟨len, e, n, hu, hn, rfl⟩) hr.tmps hy
  ·cases hc
 ·rename_i t n ps hop
  simp only [compBuildSlice, Option.bind_eq_some_iff] at hc
  obtain ⟨xs, hx, hc⟩ := hc
  split at hc
  rotate_left
  ·cases hc
  rename_i e hu
  simp only [Option.bind_eq_some_iff] at hc
  obtain ⟨z, hz, hc⟩ := hc
  split at hc
  rotate_left
  ·cases hc
  rename_i hzl
  rw [<- mkOp_eq hc |>.symm]
  exact good_e fun y H' hy => E_build hop hu hz hzl hx hr hy
 ·rename_i t l c hop
  simp only [compMakeSlice, Option.bind_eq_some_iff] at hc
  obtain ⟨l', hl', c', hc', hc⟩ := hc
  split at hc
  rotate_left
  ·cases hc
  rename_i e hu
  simp only [Option.bind_eq_some_iff] at hc
  obtain ⟨z, hz, by_, hb, hc⟩ := hc
  rw [<- mkOp_eq hc |>.symm]
  exact good_e fun y H' hy => E_make hop hu hz hb hl' hc' hr hy
 ·rename_i t x lo hi mx hop
  exact good_slice hop hc hr
 ·rename_i f first captured hop
  simp only [Option.bind_eq_some_iff] at hc
  obtain ⟨xs, hx, hc⟩ := hc
  rw [<- mkOp_eq hc |>.symm]
  exact good_p hr fun y hy => A_mkfn hop hx hr.tmps hy
 ·rename_i x hop
  simp only [Option.bind_eq_some_iff] at hc
  obtain ⟨y, hy, hc⟩ := hc
  rw [<- mkOp_eq hc |>.symm]
  exact good_p hr fun z hz => A_nilchk hop hy hr.tmps hz
 ·cases hc
end
end Go.Sh
namespace Go.Sh
open Go
theorem upon_mono {P : Program} {o : Oper} {a : Act} {next next' : Act -> World -> Prop} {Q : Exit -> Act -> World -> Prop} {r : Result Next} (hu : o.upon P a next Q r) (hn : ∀ a w, next a w -> next' a w) : o.upon P a next' Q r := by
  cases r with
  | ok n w' =>
    cases n <;> simp only [Oper.upon] at hu ⊢ <;> first
      | exact hn _ _ hu
      | (refine Calls.mono hu fun e w'' he => ?_
         cases e <;> first | exact hn _ _ he | exact he)
      | exact Rows.mono hu fun v w'' hv => hn _ _ hv
      | exact hu
  | halt x w' => cases x <;> simp only [Oper.upon] at hu ⊢ <;> exact hu
theorem owp_mono {P : Program} {o : Oper} {a : Act} {w : World} {next next' : Act -> World -> Prop} {Q : Exit -> Act -> World -> Prop} (hu : o.wp P a w next Q) (hn : ∀ a w, next a w -> next' a w) : o.wp P a w next' Q := upon_mono hu hn
section
variable {P : Program} {h : Hints} {cx : Ctx} {C : CallC} {R : Type}
theorem run_sem (o : Op) (T : Tmps) (H : Heap) (k : Tmps -> Heap -> Option R) : o.run (viaC C) T H k = (semK C o.k (o.args.map (·.ev T)) H).bind fun p => k (setD (clear T o.clr) o.dst p.1) p.2 := by
 unfold Op.run semK
 cases o.k with
 | p pk => dsimp only; cases opP pk (o.args.map (·.ev T)) <;> rfl
 | b bk => dsimp only; cases opB bk (o.args.map (·.ev T)) <;> rfl
 | r rk => dsimp only; cases opR rk (o.args.map (·.ev T)) H <;> rfl
 | e ek => rfl
 | call f => rfl
 | callv =>
  simp only
  generalize o.args.map (·.ev T) = xs
  cases xs with
  | nil => rfl
  | cons x xs => cases x <;> rfl
def Kn (P : Program) (h : Hints) (cx : Ctx) (k : Tmps -> Heap -> Option R) (res : R) (a : Act) (w : World) : Prop := ∃ T H, After P h cx T H a w /\ T.length = h.nt /\ k T H = some res
theorem set_getT {T : Tmps} {g : Nat} {v : SV} (hg : T[g]? = some v) : T.set g v = T := by
 apply List.ext_getElem?
 intro j
 rw [List.getElem?_set]
 split
 ·rename_i e; subst e
  split
  ·exact hg.symm
  ·rename_i hl; rw [List.getElem?_eq_none (by omega)]
 ·rfl
theorem guard_ok {ρ : Place} {lam : Nat -> Nat} {T : Tmps} {H : Heap} {a : Act} {w : World} (hr : Rel P h cx ρ lam T H a w) {ops : Array Oper} {o : Oper} {j g : Nat} {want : Bool} (hg : o.guard = some (j, want)) (hd : (ops[j]?).bind (·.dst) = some g) {F : Bool -> Option R} {U : Option R} {res : R}
  (hk : guardK (getT T g) F U = some res) : (∃ b, getT T g = .bool b /\ T.set g (.bool b) = T /\ F b = some res /\ Region.wanted o (yielded ops a.tmps) = boolEq b want) \/ (T.set g .undef = T /\ U = some res /\ Region.wanted o (yielded ops a.tmps) = false) := by
 have hb : (∃ b, getT T g = .bool b /\ F b = some res) \/ (getT T g = .undef /\ U = some res) := by
  unfold guardK at hk
  split at hk
  ·rename_i e; exact .inl ⟨true, e, hk⟩
  ·rename_i e; exact .inl ⟨false, e, hk⟩
  ·rename_i e; exact .inr ⟨e, hk⟩
  ·cases hk
 rcases hb with hb | ⟨e1, e2⟩
 rotate_left
 ·right
  obtain ⟨s1, s2⟩ := slot_of hr.tmps (t := g) (by rw [e1]; simp)
  rw [e1] at s1 s2
  simp only [SlotRel, conc] at s1
  refine ⟨set_getT s2, e2, ?_⟩
  have hy : yielded ops a.tmps j = none := by
   have := s1.2
   rw [Array.getD_eq_getD_getElem?] at this
   simp only [yielded, hd, Option.bind_some]
   cases ht : a.tmps[g]? with
   | none => rfl
   | some v => rw [ht] at this; simp at this; rw [this]; rfl
  simp only [Region.wanted, hg, hy]
  cases want <;> rfl
 left
 obtain ⟨b, e1, e2⟩ := hb
 obtain ⟨s1, s2⟩ := slot_of hr.tmps (t := g) (by rw [e1]; simp)
 rw [e1] at s1 s2
 simp only [SlotRel, conc] at s1
 have hv : a.tmps[g]? = some (.bool b) := by
  have := s1.2
  rw [Array.getD_eq_getD_getElem?] at this
  cases ht : a.tmps[g]? with
  | none => rw [ht] at this; simp [Go.undef] at this
  | some v => rw [ht] at this; simp at this; rw [this]
 refine ⟨b, e1, set_getT s2, e2, ?_⟩
 simp only [Region.wanted, hg, yielded, hd, Option.bind_some, hv]
 cases b <;> cases want <;> rfl
theorem sameOpt_eq {a b : Option Nat} (h : sameOpt a b = true) : a = b := by
 cases a <;> cases b <;> simp_all [sameOpt]
theorem compOp_ok {ops : Array Oper} {o : Oper} {co : Op} (hc : compOp P h ops o = some co) : ∃ r, compK P h o = some r /\ co.k = r.1 /\ co.args = r.2.1 /\ co.dst = r.2.2.1 /\ co.clr = r.2.2.2 /\ dstOk o co.k co.dst = true /\ 
  ((o.guard = none /\ co.guard = none) \/ ∃ j want g, o.guard = some (j, want) /\ (ops[j]?).bind (·.dst) = some g /\ co.guard = some (g, want)) := by
 simp only [compOp, Option.bind_eq_some_iff] at hc
 obtain ⟨r, hr, hc⟩ := hc
 refine ⟨r, hr, ?_⟩
 cases hd : dstOk o r.1 r.2.2.1 with
 | false => rw [hd] at hc; simp at hc
 | true =>
  rw [hd] at hc
  simp only [cond_true] at hc
  split at hc
  ·rename_i hg
   simp only [Option.some.injEq] at hc
   subst hc
   exact ⟨rfl, rfl, rfl, rfl, hd, .inl ⟨hg, rfl⟩⟩
  ·rename_i j want hg
   simp only [Option.map_eq_some_iff] at hc
   obtain ⟨g, hd', rfl⟩ := hc
   exact ⟨rfl, rfl, rfl, rfl, hd, .inr ⟨j, want, g, hg, hd', rfl⟩⟩
theorem skip_ok {ρ : Place} {lam : Nat -> Nat} {T : Tmps} {H : Heap} {a : Act} {w : World} (hr : Rel P h cx ρ lam T H a w) {o : Oper} {co : Op} (hd : dstOk o co.k co.dst = true) : Rel P h cx ρ lam (co.skipT T) H (a.put o.dst Go.undef) w := by
 unfold dstOk at hd
 unfold Op.skipT
 cases hs : isSt co.k with
 | true =>
  rw [hs] at hd
  simp only [cond_true] at hd ⊢
  have : o.dst = none := by cases ho : o.dst <;> simp_all
  rw [this]
  exact hr
 | false =>
  rw [hs] at hd
  simp only [cond_false] at hd ⊢
  rw [sameOpt_eq hd]
  exact ⟨hr.heap, hr.tmps.put_vr o.dst (.inr ⟨by simp [okSV], rfl⟩)⟩
theorem len_setD (T : Tmps) (d : Option Nat) (y : SV) : (setD T d y).length = T.length := by cases d <;> simp [setD]
theorem len_after (T : Tmps) (l : List Nat) (d : Option Nat) (y : SV) : (setD (clear T l) d y).length = T.length := by rw [len_setD, clear_len]
theorem step_sound (hC : CallOK P C) {ops : Array Oper} {o : Oper} {co : Op} (hc : compOp P h ops o = some co) {T : Tmps} {H : Heap} {k : Tmps -> Heap -> Option R} {res : R} (hs : co.step (viaC C) T H k = some res)
  {a : Act} {w : World} (hr : After P h cx T H a w) (hT : T.length = h.nt) {Q : Exit -> Act -> World -> Prop} {K : Act -> World -> Prop} (hK : ∀ a w, Kn P h cx k res a w -> K a w) :
  if Region.wanted o (yielded ops a.tmps) then o.wp P a w K Q else K (a.put o.dst Go.undef) w := by
 obtain ⟨ρ, lam, hr⟩ := hr
 obtain ⟨r, hk, e1, e2, e3, e4, hd, hg⟩ := compOp_ok hc
 have main : co.run (viaC C) T H k = some res -> o.wp P a w K Q := fun hrun => by
  rw [run_sem, Option.bind_eq_some_iff] at hrun
  obtain ⟨⟨y, H'⟩, hz, hk'⟩ := hrun
  rw [e1, e2] at hz
  rw [e3, e4] at hk'
  exact owp_mono (good_all hC hk hr y H' hz Q) fun a' w' ha => hK a' w' ⟨_, _, ha, by rw [<- hT]; exact len_after _ _ _ _, hk'⟩
 rcases hg with ⟨g1, g2⟩ | ⟨j, want, g, g1, g2, g3⟩
 ·rw [if_pos (by simp [Region.wanted, g1])]
  unfold Op.step at hs
  rw [g2] at hs
  exact main hs
 ·unfold Op.step at hs
  rw [g3] at hs
  rcases guard_ok hr g1 g2 hs with ⟨b, b1, b2, b3, b4⟩ | ⟨b2, b3, b4⟩
  rotate_left
  ·rw [b4]
   rw [b2] at b3
   simp only [Bool.false_eq_true, if_false]
   exact hK _ _ ⟨_, _, ⟨ρ, lam, skip_ok hr hd⟩, by rw [<- hT]; unfold Op.skipT; cases isSt co.k <;> simp [len_setD], b3⟩
  rw [b4]
  simp only [b2] at b3
  cases hbw : boolEq b want with
  | true =>
   rw [hbw] at b3
   simp only [if_true]
   exact main b3
  | false =>
   rw [hbw] at b3
   simp only [cond_false] at b3
   simp only [Bool.false_eq_true, if_false]
   exact hK _ _ ⟨_, _, ⟨ρ, lam, skip_ok hr hd⟩, by rw [<- hT]; unfold Op.skipT; cases isSt co.k <;> simp [len_setD], b3⟩
theorem runOps_sound (hC : CallOK P C) (ops : Array Oper) {Q : Exit -> Act -> World -> Prop} {k : Tmps -> Heap -> Option R} {res : R} (hQ : ∀ a w, Kn P h cx k res a w -> Q .normal a w) :
  ∀ (l : List Oper) (cl : List Op) (T : Tmps) (H : Heap) (a : Act) (w : World), compOps P h ops l = some cl -> runOps (viaC C) cl T H k = some res -> After P h cx T H a w -> T.length = h.nt -> wpList P ops Q l a w
 | [], cl, T, H, a, w, hc, hs, hr, hT => by
  simp [compOps] at hc; subst hc
  exact hQ a w ⟨T, H, hr, hT, hs⟩
 | o :: l, cl, T, H, a, w, hc, hs, hr, hT => by
  simp only [compOps, Option.bind_eq_some_iff, Option.map_eq_some_iff] at hc
  obtain ⟨co, hco, cl', hcl, rfl⟩ := hc
  have := step_sound (Q := Q) hC hco hs hr hT (K := wpList P ops Q l) (fun a' w' ⟨T', H', hr', hT', hk'⟩ => runOps_sound hC ops hQ l cl' T' H' a' w' hcl hk' hr' hT')
  unfold wpList
  split
  ·rename_i hw; rw [if_pos hw] at this; exact .inl this
  ·rename_i hw; rw [if_neg hw] at this; exact this
def Post (P : Program) (h : Hints) (cx : Ctx) (kn : Tmps -> Heap -> Option R) (ke : Nat -> Tmps -> Heap -> Option R) (kr : Tmps -> Heap -> Option R) (res : R) : Exit -> Act -> World -> Prop
 | .normal, a, w => Kn P h cx kn res a w
 | .exit id, a, w => Kn P h cx (ke id) res a w
 | .ret, a, w => Kn P h cx kr res a w
 | _, _, _ => False
def LoopWp (P : Program) (c : Code) (Q : Exit -> Act -> World -> Prop) (a : Act) (w : World) : Prop :=
 ∀ (b : Frame) (k : List Item) (cs : List Frame), ∃ e a' w', Q e a' w' /\ Arrives P (lone (b.at a (.code c :: .inLoop c :: k)) cs w) b k cs e a' w'
theorem loop_of {c : Code} {Q : Exit -> Act -> World -> Prop} {a : Act} {w : World} (hl : LoopWp P c Q a w) : (Code.loop c).wp P Q a w := fun b k cs => by
 obtain ⟨e, a', w', hq, harr⟩ := hl b k cs
 exact ⟨e, a', w', hq, .of_steps (.one step_loop) harr⟩
theorem loop_round {c : Code} {Q : Exit -> Act -> World -> Prop} {a : Act} {w : World} (hr : c.wp P (Exit.then (LoopWp P c Q) Q) a w) : LoopWp P c Q a w := fun b k cs => by
 obtain ⟨e, a₁, w₁, hq, harr⟩ := hr b (.inLoop c :: k) cs
 cases e with
 | normal =>
  obtain ⟨e₂, a₂, w₂, hq₂, harr₂⟩ := hq b k cs
  exact ⟨e₂, a₂, w₂, hq₂, .of_steps (Steps.trans harr (.one step_inLoop)) harr₂⟩
 | exit id => exact ⟨_, a₁, w₁, hq, .pass (x := .inLoop c) rfl (fun _ _ => .inl (by simp)) harr⟩
 | goto l => exact ⟨_, a₁, w₁, hq, .pass (x := .inLoop c) rfl (fun _ _ => .inl (by simp)) harr⟩
 | ret => exact ⟨_, a₁, w₁, hq, .pass (x := .inLoop c) rfl (fun _ _ => .inl (by simp)) harr⟩
 | panic ch => exact ⟨_, a₁, w₁, hq, .pass (x := .inLoop c) rfl (fun _ _ => .inl (by simp)) harr⟩
 | outgrown => exact ⟨_, a₁, w₁, hq, .pass (x := .inLoop c) rfl (fun _ _ => .inl (by simp)) harr⟩
theorem unprojFrom_get (live : List Nat) (vs : List SV) : ∀ (n i t : Nat) (v : SV), (unprojFrom live vs n i)[t]? = some v -> v = .junk \/ ∃ j, placeOf live (i + t) = some j /\ v = getT vs j
 | 0, i, t, v, hv => by simp [unprojFrom] at hv
 | n + 1, i, t, v, hv => by
  cases t with
  | zero =>
   simp only [unprojFrom, List.getElem?_cons_zero, Option.some.injEq] at hv
   cases hp : placeOf live i with
   | none => rw [hp] at hv; exact .inl hv.symm
   | some j => rw [hp] at hv; exact .inr ⟨j, by first | rfl | exact hp, hv.symm⟩
  | succ t =>
   simp only [unprojFrom, List.getElem?_cons_succ] at hv
   have := unprojFrom_get live vs n (i + 1) t v hv
   rwa [show i + 1 + t = i + (t + 1) by omega] at this
theorem unprojFrom_len (live : List Nat) (vs : List SV) : ∀ (n i : Nat), (unprojFrom live vs n i).length = n
 | 0, i => rfl
 | n + 1, i => by simp [unprojFrom, unprojFrom_len live vs n (i + 1)]
theorem proj_get (T : Tmps) : ∀ (live : List Nat) (t j : Nat), placeOf live t = some j -> getT (proj T live) j = getT T t
 | [], t, j, h => by simp [placeOf] at h
 | n :: live, t, j, h => by
  simp only [placeOf] at h
  cases hb : Nat.beq n t with
  | true =>
   simp only [hb, cond_true, Option.some.injEq] at h
   subst h
   have := Nat.eq_of_beq_eq_true hb
   subst this
   simp [proj, getT]
  | false =>
   simp only [hb, cond_false, Option.map_eq_some_iff] at h
   obtain ⟨j', hj', rfl⟩ := h
   have := proj_get T live t j' hj'
   simpa [proj, getT] using this
theorem unproj_slot (T : Tmps) (live : List Nat) {t : Nat} {v : SV} (hv : (unproj T.length live (proj T live))[t]? = some v) : v = .junk \/ T[t]? = some v := by
 rcases unprojFrom_get live (proj T live) T.length 0 t v hv with h | ⟨j, hj, rfl⟩
 ·exact .inl h
 ·rw [Nat.zero_add] at hj
  rw [proj_get T live t j hj]
  rcases getT_cases T t with h | h
  ·exact .inr h
  ·exact .inl h
theorem After.forget {T : Tmps} {H : Heap} {a : Act} {w : World} {nt : Nat} (hr : After P h cx T H a w) (hn : T.length = nt) (live : List Nat) : After P h cx (unproj nt live (proj T live)) H a w := by
 obtain ⟨ρ, lam, hr⟩ := hr
 subst hn
 have key : ∀ (t : Nat) (cs : List SV), (unproj T.length live (proj T live))[t]? = some (SV.box cs) -> T[t]? = some (SV.box cs) := fun t cs hv => by
  rcases unproj_slot T live hv with h | h
  ·cases h
  ·exact h
 refine ⟨ρ, lam, hr.heap, ⟨by rw [unproj, unprojFrom_len]; exact hr.tmps.len, fun t v hv => ?_, fun t cs hv => hr.tmps.box t cs (key t cs hv), fun t t' c c' hv hv' => hr.tmps.boxsep t t' c c' (key t c hv) (key t' c' hv'),
  fun t cs hv => hr.tmps.boxrow t cs (key t cs hv), fun t cs hv => hr.tmps.boxloc t cs (key t cs hv), fun t cs hv => hr.tmps.boxnew t cs (key t cs hv), hr.tmps.nodefer⟩⟩
 rcases unproj_slot T live hv with rfl | h
 ·trivial
 ·exact hr.tmps.slot t v h
def DrawSound (P : Program) (h : Hints) (C : CallC) : Prop := ∀ (R : Type) (cx : Ctx) (ops : Array Oper) (cl : List Op) (T : Tmps) (H : Heap) (a : Act) (w : World) (k : Tmps -> Heap -> Option R) (res : R) (Q : Exit -> Act -> World -> Prop) (id : Nat),
 compOps P h ops ops.toList = some cl -> (edgesOk ops.toList && drawOk cl (precs ops.toList)) = true -> runDraw (viaC C) (drawPairs cl (precs ops.toList)) cl [] T H k = some res -> After P h cx T H a w -> T.length = h.nt ->
  (∀ a w, Kn P h cx k res a w -> Q .normal a w) -> (Code.region id ops true).wp P Q a w
theorem Post.seq {kn kn' : Tmps -> Heap -> Option R} {ke : Nat -> Tmps -> Heap -> Option R} {kr : Tmps -> Heap -> Option R} {res : R} {next : Act -> World -> Prop} (hn : ∀ a w, Kn P h cx kn res a w -> next a w) {e : Exit} {a : Act} {w : World}
  (hp : Post P h cx kn ke kr res e a w) : Exit.then next (Post P h cx kn' ke kr res) e a w := by
 cases e <;> first | exact hn _ _ hp | exact hp
theorem exec_sound (hC : CallOK P C) (hD : DrawSound P h C) (K : Nat) {res : R} : ∀ (c : Code) (cc : CC) (T : Tmps) (H : Heap) (a : Act) (w : World) (kn : Tmps -> Heap -> Option R) (ke : Nat -> Tmps -> Heap -> Option R) (kr : Tmps -> Heap -> Option R),
  compCode P h c = some cc -> exec K (viaC C) cc T H kn ke kr = some res -> After P h cx T H a w -> T.length = h.nt -> c.wp P (Post P h cx kn ke kr res) a w
 | .skip, cc, T, H, a, w, kn, ke, kr, hc, hs, hr, hT => by
  simp only [compCode, Option.some.injEq] at hc; subst hc
  exact wp_skip ⟨T, H, hr, hT, hs⟩
 | .ret, cc, T, H, a, w, kn, ke, kr, hc, hs, hr, hT => by
  simp only [compCode, Option.some.injEq] at hc; subst hc
  exact wp_ret ⟨T, H, hr, hT, hs⟩
 | .label l, cc, T, H, a, w, kn, ke, kr, hc, hs, hr, hT => by
  simp only [compCode, Option.some.injEq] at hc; subst hc
  exact wp_label ⟨T, H, hr, hT, hs⟩
 | .exit id, cc, T, H, a, w, kn, ke, kr, hc, hs, hr, hT => by
  simp only [compCode, Option.some.injEq] at hc; subst hc
  exact wp_exit ⟨T, H, hr, hT, hs⟩
 | .region id ops false, cc, T, H, a, w, kn, ke, kr, hc, hs, hr, hT => by
  simp only [compCode, Option.map_eq_some_iff] at hc
  obtain ⟨cl, hcl, rfl⟩ := hc
  simp only [exec] at hs
  exact wp_region_list (runOps_sound (R := R) hC ops (Q := Post P h cx kn ke kr res) (k := kn) (res := res) (fun a w hk => hk) ops.toList cl T H a w hcl hs hr hT)
 | .region id ops true, cc, T, H, a, w, kn, ke, kr, hc, hs, hr, hT => by
  simp only [compCode, Option.bind_eq_some_iff] at hc
  obtain ⟨cl, hcl, hc⟩ := hc
  cases hb : (edgesOk ops.toList && drawOk cl (precs ops.toList)) with
  | false => rw [hb] at hc; simp at hc
  | true =>
   rw [hb] at hc
   simp only [cond_true, Option.some.injEq] at hc
   subst hc
   simp only [exec] at hs
   exact hD R cx ops cl T H a w kn res (Post P h cx kn ke kr res) id hcl hb hs hr hT (fun a w hk => hk)
 | .seq x y, cc, T, H, a, w, kn, ke, kr, hc, hs, hr, hT => by
  simp only [compCode, Option.bind_eq_some_iff, Option.map_eq_some_iff] at hc
  obtain ⟨cx', hx, cy, hy, rfl⟩ := hc
  simp only [exec] at hs
  refine wp_seq (Code.wp_mono (fun e a' w' hp => ?_) (exec_sound hC hD K x cx' T H a w _ ke kr hx hs hr hT))
  exact Post.seq (fun a w ⟨T', H', hr', hT', hk⟩ => exec_sound hC hD K y cy T' H' a w kn ke kr hy hk hr' hT') hp
 | .cond c x y, cc, T, H, a, w, kn, ke, kr, hc, hs, hr, hT => by
  simp only [compCode, Option.bind_eq_some_iff, Option.map_eq_some_iff] at hc
  obtain ⟨c', hc', cx', hx, cy, hy, rfl⟩ := hc
  simp only [exec] at hs
  obtain ⟨ρ, lam, hr0⟩ := hr
  have ec := ev_opd hr0.tmps hc'
  unfold condK at hs
  split at hs
  ·rename_i e
   rw [e] at ec
   have := (ec.ne (by simp)).2
   exact wp_cond_true (by simpa [conc] using this) (exec_sound hC hD K x cx' T H a w kn ke kr hx hs ⟨ρ, lam, hr0⟩ hT)
  ·rename_i e
   rw [e] at ec
   have := (ec.ne (by simp)).2
   exact wp_cond_false (by simpa [conc] using this) (exec_sound hC hD K y cy T H a w kn ke kr hy hs ⟨ρ, lam, hr0⟩ hT)
  ·cases hs
 | .block id c, cc, T, H, a, w, kn, ke, kr, hc, hs, hr, hT => by
  simp only [compCode, Option.map_eq_some_iff] at hc
  obtain ⟨c', hc', rfl⟩ := hc
  simp only [exec] at hs
  refine wp_block (Code.wp_mono (fun e a' w' hp => ?_) (exec_sound hC hD K c c' T H a w _ _ kr hc' hs hr hT))
  cases e with
  | exit i =>
   simp only [Exit.inBlock, Post] at hp ⊢
   obtain ⟨T', H', hr', hT', hk⟩ := hp
   split
   ·rename_i e; subst e
    have : Nat.beq i i = true := Nat.beq_refl i
    rw [this] at hk
    exact ⟨T', H', hr', hT', hk⟩
   ·rename_i e
    have : Nat.beq i id = false := by
     cases hb : Nat.beq i id with
     | false => rfl
     | true => exact absurd (Nat.eq_of_beq_eq_true hb) e
    rw [this] at hk
    exact ⟨T', H', hr', hT', hk⟩
  | _ => exact hp
 | .loop c, cc, T, H, a, w, kn, ke, kr, hc, hs, hr, hT => by
  simp only [compCode, Option.map_eq_some_iff] at hc
  obtain ⟨c', hc', rfl⟩ := hc
  simp only [exec] at hs
  refine loop_of ?_
  generalize (assoc h.live (firstRegion c)).getD [] = live at *
  have key : ∀ n T H a w, loopN (fun vs H k => exec K (viaC C) c' (unproj h.nt live vs) H (fun T' H' => k (proj T' live) H') ke kr) n (proj T live) H = some res -> After P h cx T H a w -> T.length = h.nt ->
    LoopWp P c (Post P h cx kn ke kr res) a w := by
   intro n
   induction n with
   | zero => intro T H a w hs _ _; simp [loopN] at hs
   | succ n ih =>
    intro T H a w hs hr hT
    simp only [loopN] at hs
    refine loop_round (Code.wp_mono (fun e a' w' hp => ?_) (exec_sound hC hD K c c' _ H a w _ ke kr hc' hs (hr.forget hT live) (by rw [unproj, unprojFrom_len])))
    exact Post.seq (fun a w ⟨T', H', hr', hT', hk⟩ => ih T' H' a w hk hr' hT') hp
  exact key K T H a w hs hr hT
 | .scope c, cc, T, H, a, w, kn, ke, kr, hc, hs, hr, hT => by
  simp only [compCode, Option.map_eq_some_iff] at hc
  obtain ⟨c', hc', rfl⟩ := hc
  simp only [exec] at hs
  refine wp_scope_straight (Code.wp_mono (fun e a' w' hp => ?_) (exec_sound hC hD K c c' T H a w kn ke kr hc' hs hr hT))
  cases e <;> exact hp
 | .rangeFunc .., cc, T, H, a, w, kn, ke, kr, hc, hs, hr, hT => by simp [compCode] at hc
 | .goto _, cc, T, H, a, w, kn, ke, kr, hc, hs, hr, hT => by simp [compCode] at hc
 | .refuse _, cc, T, H, a, w, kn, ke, kr, hc, hs, hr, hT => by simp [compCode] at hc
end
end Go.Sh

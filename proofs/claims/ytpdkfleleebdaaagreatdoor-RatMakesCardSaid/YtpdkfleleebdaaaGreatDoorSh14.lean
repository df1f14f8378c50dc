/- Every operation. -/
import Derived.Test.YtpdkfleleebdaaaGreatDoorSh13
set_option linter.unusedVariables false
set_option linter.unusedSimpArgs false
namespace Go.Sh
open Go
def callVS (C : CallC) (xs : List SV) (H : Heap) : Option (SV × Heap) :=
 match xs with
 | .fn f bound caps :: args => C f (bound ++ (args ++ caps)) H
 | _ => none
def semK (C : CallC) (k : K) (xs : List SV) (H : Heap) : Option (SV × Heap) :=
 match k with
 | .p pk => (opP pk xs).map (·, H)
 | .b bk => (opB bk xs).map fun cs => (.box cs, H)
 | .r rk => (opR rk xs H).map (·, H)
 | .e ek => opE ek xs H
 | .call f => C f xs H
 | .callv => callVS C xs H
def Told (P : Program) (g : Nat) (xs : List SV) (H : Heap) (r : SV) (H' : Heap) : Prop :=
 H' = H /\ (∃ k n, r = .int k n) /\ ∀ ρ w vs, VRL ρ H.size xs vs -> ∃ v, (callFunc g vs.toArray).run P w = .ok (.value v) w /\ VR ρ H.size r v
structure CallOK (P : Program) (C : CallC) : Prop where
 fn : ∀ g xs H r H', C g xs H = some (r, H') -> (∃ fn, P.funcs[g]? = some fn /\ (fn.name == "runtime.NumGoroutine") = false /\ fn.body.isNone = false) \/ Told P g xs H r H'
 calls : ∀ g xs H r H', C g xs H = some (r, H') -> ¬ Told P g xs H r H' -> ∀ cx ρ w vs, HRel cx ρ H w -> VRL ρ H.size xs vs ->
  Calls P g vs.toArray w fun e w' => ∃ v ρ', e = .returned v /\ (∀ i, i < H.size -> ρ' i = ρ i) /\ okSV ρ' H'.size r /\ v = conc ρ' r /\ HRel ⟨w, H, ρ⟩ ρ' H' w'
section
variable {P : Program} {h : Hints} {cx : Ctx} {ρ : Place} {lam : Nat -> Nat} {T : Tmps} {H : Heap} {a : Act} {w : World} {C : CallC}
def After (P : Program) (h : Hints) (cx : Ctx) (T' : Tmps) (H' : Heap) (a' : Act) (w' : World) : Prop := ∃ ρ' lam', Rel P h cx ρ' lam' T' H' a' w'
theorem Does.wp {o : Oper} {T' : Tmps} {H' : Heap} (hd : Does P h cx a w o T' H') (Q : Exit -> Act -> World -> Prop) : o.wp P a w (After P h cx T' H') Q := by
 obtain ⟨v, w', ρ', lam', h1, h2⟩ := hd
 unfold Oper.wp
 rcases h1 with h1 | ⟨h1, rfl⟩
 ·rw [h1]; exact ⟨ρ', lam', h2⟩
 ·rw [h1]; exact ⟨ρ', lam', h2⟩
theorem call_back (hr : Rel P h cx ρ lam T H a w) {ρ' : Place} {H' : Heap} {w' : World} {r : SV} (hρ : ∀ i, i < H.size -> ρ' i = ρ i) (hok : okSV ρ' H'.size r) (hh : HRel ⟨w, H, ρ⟩ ρ' H' w') (d : Option Nat) :
  Rel P h cx ρ' lam (setD T d r) H' (a.put d (conc ρ' r)) w' := by
 have hH : HRel cx ρ' H' w' := by
  refine ⟨hh.os.trans hr.heap.os, hh.tape.trans hr.heap.tape, hh.output.trans hr.heap.output, Nat.le_trans hr.heap.size hh.size, fun b hb hn => ?_, hh.rows, fun r row hg hk => ?_, hh.sep, hr.heap.ext.trans hh.ext, fun i hi => ?_⟩
  ·have hb' := Nat.lt_of_lt_of_le hb hr.heap.size
   rw [hh.keep b hb' (fun ⟨r, row, h1, h2, h3⟩ => by
    rcases hr.heap.own r row h1 h2 with h | h
    ·exact hn (h3 ▸ h)
    ·have : (ρ r).block = b := h3
     rw [this] at h
     exact absurd hb (by omega))]
   exact hr.heap.keep b hb hn
  ·rcases hh.own r row hg hk with ⟨r', row', h1, h2, h3⟩ | h
   ·have : (ρ r').block = (ρ' r).block := h3
    rw [<- this]
    exact hr.heap.own r' row' h1 h2
   ·exact .inr (Nat.le_trans hr.heap.size h)
  ·rw [hρ i (Nat.lt_of_lt_of_le hi hr.heap.ext.size)]; exact hr.heap.old i hi
 have hnotown : ∀ t cs, T[t]? = some (.box cs) -> ¬ Ctx.own ⟨w, H, ρ⟩ (lam t) := fun t cs ht ⟨r, row, h1, h2, h3⟩ => hr.tmps.boxrow t cs ht r row h1 (by omega) h3
 have hT : TRel cx ρ' lam h.isLoc h.derOf H' w' T a := by
  refine hr.tmps.heap hρ hh.ext.size (fun t cs ht => hh.keep _ (hr.tmps.box t cs ht).lt (hnotown t cs ht)) (fun t cs ht r row hg hk => ?_)
  by_cases hlt : r < H.size
  ·have hx := hh.ext.rows r hlt
   simp only [hg] at hx
   cases hg0 : H.get r with
   | none => simp [hg0, RowExt] at hx
   | some row0 =>
    simp only [hg0, RowExt] at hx
    rw [hρ r hlt]
    exact hr.tmps.boxrow t cs ht r row0 hg0 (by rw [<- hx.2.2 hk]; exact hk)
  ·have hk2 := hh.ext.news r (Nat.le_of_not_lt hlt) row hg hk
   rcases hh.own r row hg hk2 with ⟨r', row', h1, h2, h3⟩ | h
   ·have : (ρ r').block = (ρ' r).block := h3
    rw [<- this]
    exact hr.tmps.boxrow t cs ht r' row' h1 (by omega)
   ·have := (hr.tmps.box t cs ht).lt
    have h' : w.heap.size <= (ρ' r).block := h
    omega
 exact ⟨hH, hT.put_vr d (.inr ⟨hok, rfl⟩)⟩
theorem call_wp (hC : CallOK P C) {o : Oper} {g : FuncId} {xs : List SV} {vs : List Value} {r : SV} {H' : Heap} (hrun : (execOp a.eval o).run P w = .ok (.enter g vs.toArray) w) (hv : VRL ρ H.size xs vs) (hz : C g xs H = some (r, H')) (hnt : ¬ Told P g xs H r H')
  (hr : Rel P h cx ρ lam T H a w) (Q : Exit -> Act -> World -> Prop) : o.wp P a w (After P h cx (setD T o.dst r) H') Q := by
 unfold Oper.wp
 rw [hrun, Oper.upon_enter]
 refine (hC.calls g xs H r H' hz hnt cx ρ w vs hr.heap hv).mono fun e w' hpost => ?_
 obtain ⟨v, ρ', rfl, h1, h2, rfl, h4⟩ := hpost
 exact ⟨ρ', lam, call_back hr h1 h2 h4 o.dst⟩
theorem run_callFunc {g : FuncId} {fn : Func} {args : Array Value} (hf : P.funcs[g]? = some fn) (hn : (fn.name == "runtime.NumGoroutine") = false) (hb : fn.body.isNone = false) : (callFunc g args).run P w = .ok (.enter g args) w := by
 have hn' : ¬ fn.name = "runtime.NumGoroutine" := by simpa using hn
 have hb' : ¬ fn.body = none := by intro e; rw [e] at hb; simp at hb
 simp [callFunc, hf, hn', hb']
theorem VRL.append {n : Nat} : ∀ {xs ys : List SV} {vs us : List Value}, VRL ρ n xs vs -> VRL ρ n ys us -> VRL ρ n (xs ++ ys) (vs ++ us)
 | [], _, [], _, _, h2 => h2
 | x :: xs, _, v :: vs, _, h1, h2 => ⟨h1.1, VRL.append h1.2 h2⟩
 | [], _, _ :: _, _, h1, _ => by simp [VRL] at h1
 | _ :: _, _, [], _, h1, _ => by simp [VRL] at h1
theorem VRL.of_ok {n : Nat} : ∀ {xs : List SV}, okL ρ n xs -> VRL ρ n xs (concL ρ xs)
 | [], _ => by simp [VRL, concL]
 | x :: xs, h => by
  simp only [okL] at h
  exact ⟨.inr ⟨h.1, rfl⟩, VRL.of_ok h.2⟩
theorem A_strcut {o : Oper} {t : TypeId} {x : Operand} {lo hi : Option Operand} {x' : Opd} {l1 l2 : List Opd} (hop : o.op = .slice t x lo hi none) (ht : P.underlying t = some .string) (hx : opd h x = some x') (h1 : optOpd h lo = some l1) (h2 : optOpd h hi = some l2)
  (hr : TRel cx ρ lam h.isLoc h.derOf H w T a) {z : SV} (hz : opP (.strcut lo.isSome hi.isSome) ((x' :: (l1 ++ l2)).map (·.ev T)) = some z) : RunsTo P ρ H.size a w o z := by
 have ex := ev_opd hr hx
 have hext : ∀ (s : List UInt8) (i j : Nat), (ByteArray.mk s.toArray).extract i j = ByteArray.mk ((s.take j).drop i).toArray := fun s i j => by
  apply ByteArray.ext
  simp [ByteArray.data_extract, List.drop_take]
 rcases VR.optInt hr h1 with ⟨rfl, rfl⟩ | ⟨y1, o1, rfl, rfl, e1⟩ <;> rcases VR.optInt hr h2 with ⟨rfl, rfl⟩ | ⟨y2, o2, rfl, rfl, e2⟩
 ·simp [opP] at hz
 ·simp only [Option.isSome_none, Option.isSome_some, List.nil_append, List.map_cons, List.map_nil] at hz
  generalize x'.ev T = sx at *
  generalize o2.ev T = s2 at *
  cases sx <;> cases s2 <;> simp only [opP] at hz <;> (try cases hz)
  rename_i s k b
  split at hz <;> simp at hz
  rename_i hc
  subst hz
  have hb := e2.int_of
  obtain ⟨_, ee⟩ := ex.ne (by simp)
  refine ⟨_, ?_, .inr ⟨by simp [okSV], rfl⟩⟩
  have hle : b <= (ByteArray.mk s.toArray).size := by simpa [ByteArray.size] using hc.2
  simp [execOp, hop, ee, hb, conc, Instr.sliceAt, Instr.slice, run_underlying ht, Instr.sliceBounds, run_sliceBound, hc.1, hle, hext]
 ·simp only [Option.isSome_none, Option.isSome_some, List.append_nil, List.map_cons, List.map_nil] at hz
  generalize x'.ev T = sx at *
  generalize o1.ev T = s1 at *
  cases sx <;> cases s1 <;> simp only [opP] at hz <;> (try cases hz)
  rename_i s k b
  split at hz <;> simp at hz
  rename_i hc
  subst hz
  have hb := e1.int_of
  obtain ⟨_, ee⟩ := ex.ne (by simp)
  refine ⟨_, ?_, .inr ⟨by simp [okSV], rfl⟩⟩
  have hle : b <= (ByteArray.mk s.toArray).size := by simpa [ByteArray.size] using hc.2
  have htk : s.take (ByteArray.mk s.toArray).size = s := List.take_of_length_le (by simp [ByteArray.size])
  simp [execOp, hop, ee, hb, conc, Instr.sliceAt, Instr.slice, run_underlying ht, Instr.sliceBounds, run_sliceBound, hc.1, hle, hext, htk]
 ·simp only [Option.isSome_some, List.map_cons, List.map_nil, List.cons_append, List.nil_append] at hz
  generalize x'.ev T = sx at *
  generalize o1.ev T = s1 at *
  generalize o2.ev T = s2 at *
  cases sx <;> cases s1 <;> cases s2 <;> simp only [opP] at hz <;> (try cases hz)
  rename_i s k b k' b'
  split at hz <;> simp at hz
  rename_i hc
  subst hz
  have hb := e1.int_of
  have hb' := e2.int_of
  obtain ⟨_, ee⟩ := ex.ne (by simp)
  refine ⟨_, ?_, .inr ⟨by simp [okSV], rfl⟩⟩
  have hle : b' <= (ByteArray.mk s.toArray).size := by simpa [ByteArray.size] using hc.2.1
  have eb : (b'.toNat : Int) = b' := Int.toNat_of_nonneg hc.1
  simp [execOp, hop, ee, hb, hb', conc, Instr.sliceAt, Instr.slice, run_underlying ht, Instr.sliceBounds, run_sliceBound, hc.1, hc.2.2.1, hc.2.2.2, hle, hext, eb]
theorem opds_one {x : Operand} {ys : List Opd} (ho : opds h [x] = some ys) : ∃ y, opd h x = some y /\ ys = [y] := by
 simp only [opds, Option.bind_eq_some_iff, Option.map_eq_some_iff] at ho
 obtain ⟨y, hy, ys', hys, rfl⟩ := ho
 simp only [Option.some.injEq] at hys
 subst hys
 exact ⟨y, hy, rfl⟩
theorem opds_two {x z : Operand} {ys : List Opd} (ho : opds h [x, z] = some ys) : ∃ y1 y2, opd h x = some y1 /\ opd h z = some y2 /\ ys = [y1, y2] := by
 simp only [opds, Option.bind_eq_some_iff, Option.map_eq_some_iff] at ho
 obtain ⟨y, hy, ys', ⟨y', hy', ys'', hys, rfl⟩, rfl⟩ := ho
 simp only [Option.some.injEq] at hys
 subst hys
 exact ⟨y, y', hy, hy', rfl⟩
theorem opds_len : ∀ {l : List Operand} {ys : List Opd}, opds h l = some ys -> ys.length = l.length
 | [], ys, ho => by simp [opds] at ho; subst ho; rfl
 | x :: l, ys, ho => by
  simp only [opds, Option.bind_eq_some_iff, Option.map_eq_some_iff] at ho
  obtain ⟨y, hy, ys', hys, rfl⟩ := ho
  simp [opds_len hys]
def Good (P : Program) (h : Hints) (cx : Ctx) (C : CallC) (T : Tmps) (H : Heap) (a : Act) (w : World) (o : Oper) (r : K × List Opd × Option Nat × List Nat) : Prop :=
 ∀ y H', semK C r.1 (r.2.1.map (·.ev T)) H = some (y, H') -> ∀ Q, o.wp P a w (After P h cx (setD (clear T r.2.2.2) r.2.2.1 y) H') Q
theorem good_plain {o : Oper} {r : K × List Opd × Option Nat × List Nat} (hr : Rel P h cx ρ lam T H a w) (hd : r.2.2 = (o.dst, []))
  (hs : ∀ y H', semK C r.1 (r.2.1.map (·.ev T)) H = some (y, H') -> H' = H /\ RunsTo P ρ H.size a w o y) : Good P h cx C T H a w o r := by
 intro y H' hz Q
 obtain ⟨rfl, hrun⟩ := hs y H' hz
 rw [show r.2.2.2 = [] by rw [hd], show r.2.2.1 = o.dst by rw [hd]]
 exact (Does.plain hr hrun []).wp Q
theorem good_p {o : Oper} {pk : PK} {args : List Opd} (hr : Rel P h cx ρ lam T H a w) (hs : ∀ y, opP pk (args.map (·.ev T)) = some y -> RunsTo P ρ H.size a w o y) : Good P h cx C T H a w o (.p pk, args, o.dst, []) :=
 good_plain hr rfl fun y H' hz => by
  simp only [semK, Option.map_eq_some_iff, Prod.mk.injEq] at hz
  obtain ⟨y', h1, rfl, rfl⟩ := hz
  exact ⟨rfl, hs _ h1⟩
theorem good_r {o : Oper} {rk : RK} {args : List Opd} (hr : Rel P h cx ρ lam T H a w) (hs : ∀ y, opR rk (args.map (·.ev T)) H = some y -> RunsTo P ρ H.size a w o y) : Good P h cx C T H a w o (.r rk, args, o.dst, []) :=
 good_plain hr rfl fun y H' hz => by
  simp only [semK, Option.map_eq_some_iff, Prod.mk.injEq] at hz
  obtain ⟨y', h1, rfl, rfl⟩ := hz
  exact ⟨rfl, hs _ h1⟩
theorem good_does {o : Oper} {r : K × List Opd × Option Nat × List Nat} (hs : ∀ y H', semK C r.1 (r.2.1.map (·.ev T)) H = some (y, H') -> Does P h cx a w o (setD (clear T r.2.2.2) r.2.2.1 y) H') : Good P h cx C T H a w o r :=
 fun y H' hz Q => (hs y H' hz).wp Q
theorem good_e {o : Oper} {ek : EK} {args : List Opd} (hs : ∀ y H', opE ek (args.map (·.ev T)) H = some (y, H') -> Does P h cx a w o (setD T o.dst y) H') : Good P h cx C T H a w o (.e ek, args, o.dst, []) :=
 good_does hs
theorem good_builtin {o : Oper} {b : Builtin} {args : Array Operand} {ts : Array TypeId} {r : K × List Opd × Option Nat × List Nat} (hop : o.op = .call { callee := .builtin b, args := args, argTypes := ts }) (hc : compBuiltin P h o b args ts = some r)
  (hr : Rel P h cx ρ lam T H a w) : Good P h cx C T H a w o r := by
 simp only [compBuiltin, Option.bind_eq_some_iff] at hc
 obtain ⟨xs, hx, hc⟩ := hc
 have hlen := opds_len hx
 split at hc
 ·rename_i t hts
  have ets : ts = #[t] := Array.ext' (by simpa using hts)
  subst ets
  split at hc
  ·rename_i e hu
   rw [<- mkOp_eq hc |>.symm]
   refine good_p hr fun y hy => ?_
   obtain ⟨x, hax⟩ : ∃ x, args = #[x] := by
    match xs, hy with
    | [x'], hy =>
     have : args.size = 1 := by simpa using hlen.symm
     exact ⟨args[0], Array.ext (by simpa using this) (fun i h1 h2 => by simp at h2; subst h2; rfl)⟩
    | [], hy => simp [opP] at hy
    | [_, _], hy => simp [opP] at hy
    | _ :: _ :: _ :: _, hy => simp [opP] at hy
   subst hax
   obtain ⟨x', hx', rfl⟩ := opds_one (by simpa using hx)
   exact A_len hop hu hx' hr.tmps hy
  ·rename_i hu
   rw [<- mkOp_eq hc |>.symm]
   refine good_p hr fun y hy => ?_
   obtain ⟨x, hax⟩ : ∃ x, args = #[x] := by
    match xs, hy with
    | [x'], hy =>
     have : args.size = 1 := by simpa using hlen.symm
     exact ⟨args[0], Array.ext (by simpa using this) (fun i h1 h2 => by simp at h2; subst h2; rfl)⟩
    | [], hy => simp [opP] at hy
    | [_, _], hy => simp [opP] at hy
    | _ :: _ :: _ :: _, hy => simp [opP] at hy
   subst hax
   obtain ⟨x', hx', rfl⟩ := opds_one (by simpa using hx)
   exact A_slen hop hu hx' hr.tmps hy
  ·cases hc
 ·rename_i t u hts
  have ets : ts = #[t, u] := Array.ext' (by simpa using hts)
  subst ets
  split at hc
  ·rename_i e e' hu1 hu2
   simp only [Option.bind_eq_some_iff] at hc
   obtain ⟨z, hz, by_, hb, hc⟩ := hc
   rw [<- mkOp_eq hc |>.symm]
   refine good_e fun y H' hy => ?_
   match xs, hy, hx, hlen with
   | [s', x'], hy, hx, hlen =>
    have hsz : args.size = 2 := by simpa using hlen.symm
    obtain ⟨s, x, rfl⟩ : ∃ s x, args = #[s, x] := ⟨args[0], args[1], Array.ext (by simpa using hsz) (fun i h1 h2 => by simp at h2; match i, h2 with | 0, _ => rfl | 1, _ => rfl)⟩
    obtain ⟨s1, x1, hs1, hx1, he⟩ := opds_two (by simpa using hx)
    simp only [List.cons.injEq, and_true] at he
    obtain ⟨rfl, rfl⟩ := he
    have es := ev_opd hr.tmps hs1
    have ex := ev_opd hr.tmps hx1
    simp only [List.map_cons, List.map_nil] at hy
    generalize s'.ev T = ss at *
    generalize x'.ev T = sx at *
    cases ss <;> cases sx <;> simp only [opE, Option.bind_eq_some_iff] at hy <;> (try cases hy)
    rename_i sl xl src hy
    exact E_append hop hu1 hz hb es (src_slice hu2 ex hr.heap hy.1) hr hy.2
   | [], hy, _, _ => simp [opE] at hy
   | [_], hy, _, _ => simp [opE] at hy
   | _ :: _ :: _ :: _, hy, _, _ => simp [opE] at hy
  ·rename_i e hu1 hu2
   simp only [Option.bind_eq_some_iff] at hc
   obtain ⟨z, hz, by_, hb, hc⟩ := hc
   split at hc
   rotate_left
   ·cases hc
   rename_i hz1
   rw [<- mkOp_eq hc |>.symm]
   refine good_e fun y H' hy => ?_
   match xs, hy, hx, hlen with
   | [s', x'], hy, hx, hlen =>
    have hsz : args.size = 2 := by simpa using hlen.symm
    obtain ⟨s, x, rfl⟩ : ∃ s x, args = #[s, x] := ⟨args[0], args[1], Array.ext (by simpa using hsz) (fun i h1 h2 => by simp at h2; match i, h2 with | 0, _ => rfl | 1, _ => rfl)⟩
    obtain ⟨s1, x1, hs1, hx1, he⟩ := opds_two (by simpa using hx)
    simp only [List.cons.injEq, and_true] at he
    obtain ⟨rfl, rfl⟩ := he
    have es := ev_opd hr.tmps hs1
    have ex := ev_opd hr.tmps hx1
    simp only [List.map_cons, List.map_nil] at hy
    generalize s'.ev T = ss at *
    generalize x'.ev T = sx at *
    cases ss <;> cases sx <;> first | (simp only [opE, reduceCtorEq] at hy; done) | skip
    rename_i sl xl
    simp only [opE] at hy
    exact E_append hop hu1 hz hb es (by rw [hz1]; exact src_str hu2 ex) hr (by rw [hz1]; exact hy)
   | [], hy, _, _ => simp [opE] at hy
   | [_], hy, _, _ => simp [opE] at hy
   | _ :: _ :: _ :: _, hy, _, _ => simp [opE] at hy
  ·cases hc
 ·rename_i t u hts
  have ets : ts = #[t, u] := Array.ext' (by simpa using hts)
  subst ets
  split at hc
  ·rename_i e e' hu1 hu2
   simp only [Option.bind_eq_some_iff] at hc
   obtain ⟨n, hn, hc⟩ := hc
   rw [<- mkOp_eq hc |>.symm]
   refine good_e fun y H' hy => ?_
   match xs, hy, hx, hlen with
   | [s', x'], hy, hx, hlen =>
    have hsz : args.size = 2 := by simpa using hlen.symm
    obtain ⟨s, x, rfl⟩ : ∃ s x, args = #[s, x] := ⟨args[0], args[1], Array.ext (by simpa using hsz) (fun i h1 h2 => by simp at h2; match i, h2 with | 0, _ => rfl | 1, _ => rfl)⟩
    obtain ⟨s1, x1, hs1, hx1, he⟩ := opds_two (by simpa using hx)
    simp only [List.cons.injEq, and_true] at he
    obtain ⟨rfl, rfl⟩ := he
    exact E_copy hop hu1 hn hs1 hx1 hr hy
   | [], hy, _, _ => simp [opE] at hy
   | [_], hy, _, _ => simp [opE] at hy
   | _ :: _ :: _ :: _, hy, _, _ => simp [opE] at hy
  ·cases hc
 ·rw [<- mkOp_eq hc |>.symm]
  exact good_p hr fun y hy => A_max hop hx hr.tmps hy
 ·rw [<- mkOp_eq hc |>.symm]
  exact good_p hr fun y hy => A_min hop hx hr.tmps hy
 ·cases hc
end
end Go.Sh

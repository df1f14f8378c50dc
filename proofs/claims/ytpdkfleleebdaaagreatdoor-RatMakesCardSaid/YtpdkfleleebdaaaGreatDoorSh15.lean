/- Every operation: the one theorem. -/
import Derived.Test.YtpdkfleleebdaaaGreatDoorSh14
set_option linter.unusedVariables false
set_option linter.unusedSimpArgs false
namespace Go.Sh
open Go
section
variable {P : Program} {h : Hints} {cx : Ctx} {ρ : Place} {lam : Nat -> Nat} {T : Tmps} {H : Heap} {a : Act} {w : World} {C : CallC}
theorem good_of_does {o : Oper} {k : K} {args : List Opd} {d : Option Nat} {clr : List Nat} (hs : ∀ y H', semK C k (args.map (·.ev T)) H = some (y, H') -> Does P h cx a w o (setD (clear T clr) d y) H') : Good P h cx C T H a w o (k, args, d, clr) := good_does hs
theorem semK_p {pk : PK} {xs : List SV} {y : SV} {H' : Heap} (hz : semK C (.p pk) xs H = some (y, H')) : opP pk xs = some y /\ H' = H := by
 simp only [semK, Option.map_eq_some_iff, Prod.mk.injEq] at hz
 obtain ⟨y', h1, rfl, rfl⟩ := hz
 exact ⟨h1, rfl⟩
theorem semK_b {bk : BK} {xs : List SV} {y : SV} {H' : Heap} (hz : semK C (.b bk) xs H = some (y, H')) : ∃ cs, opB bk xs = some cs /\ y = .box cs /\ H' = H := by
 simp only [semK, Option.map_eq_some_iff, Prod.mk.injEq] at hz
 obtain ⟨cs, h1, rfl, rfl⟩ := hz
 exact ⟨cs, h1, rfl, rfl⟩
theorem good_call {o : Oper} {c : Call} {r : K × List Opd × Option Nat × List Nat} (hop : o.op = .call c) (hC : CallOK P C) (hc : compCall P h o c = some r) (hr : Rel P h cx ρ lam T H a w) : Good P h cx C T H a w o r := by
 obtain ⟨callee, args, ts⟩ := c
 unfold compCall at hc
 split at hc
 ·rename_i b hb
  simp only at hb
  subst hb
  exact good_builtin hop hc hr
 ·rename_i f hb
  simp only at hb
  subst hb
  simp only [Option.bind_eq_some_iff] at hc
  obtain ⟨xs, hx, hc⟩ := hc
  rw [<- mkOp_eq hc |>.symm]
  have ex := ev_opds hr.tmps hx
  intro y H' hz Q
  simp only [semK] at hz
  have hrun : ∀ nx, (callFunc f (args.toList.map a.eval).toArray).run P w = .ok nx w -> (execOp a.eval o).run P w = .ok nx w := fun nx hn => by
   simp only [execOp, hop, resolve, Act.eval, Deferred.ofValue, Sem.run_bind, Sem.run_pure, Result.andThen_ok, invoke]
   rw [show (#[] ++ Array.map a.eval args ++ #[] : Array Value) = (args.toList.map a.eval).toArray by apply Array.ext'; simp]
   exact hn
  by_cases ht : Told P f (xs.map (·.ev T)) H y H'
  ·obtain ⟨rfl, _, hv⟩ := ht
   obtain ⟨v, h1, h2⟩ := hv ρ w _ ex
   exact (Does.plain hr ⟨v, hrun _ h1, h2⟩ []).wp Q
  ·obtain ⟨fn, h1, h2, h3⟩ := (hC.fn _ _ _ _ _ hz).resolve_right ht
   exact call_wp hC (hrun _ (run_callFunc h1 h2 h3)) ex hz ht hr Q
 ·rename_i t hb
  simp only at hb
  subst hb
  simp only [Option.bind_eq_some_iff] at hc
  obtain ⟨xs, hx, hc⟩ := hc
  rw [<- mkOp_eq hc |>.symm]
  have ex := ev_opds hr.tmps hx
  intro y H' hz Q
  simp only [semK, List.map_cons, callVS, Opd.ev] at hz
  have hj : getT T t ≠ .junk := by intro e; rw [e] at hz; simp at hz
  obtain ⟨s1, s2⟩ := slot_of hr.tmps hj
  generalize getT T t = st at *
  cases st <;> first | (simp only [reduceCtorEq] at hz; done) | skip
  rename_i f bound caps
  simp only at hz
  simp only [SlotRel] at s1
  obtain ⟨o1, e1⟩ := s1
  simp only [okSV] at o1
  have hrun : ∀ nx, (callFunc f (concL ρ bound ++ (args.toList.map a.eval ++ concL ρ caps)).toArray).run P w = .ok nx w -> (execOp a.eval o).run P w = .ok nx w := fun nx hn => by
   have et : a.eval (.tmp t) = conc ρ (.fn f bound caps) := e1
   simp only [execOp, hop, resolve, et, conc, Deferred.ofValue, Sem.run_bind, Sem.run_pure, Result.andThen_ok, invoke]
   rw [show ((concL ρ bound).toArray ++ Array.map a.eval args ++ (concL ρ caps).toArray : Array Value) = (concL ρ bound ++ (args.toList.map a.eval ++ concL ρ caps)).toArray by
    apply Array.ext'; simp [List.append_assoc]]
   exact hn
  have exx := VRL.append (VRL.of_ok o1.1) (VRL.append ex (VRL.of_ok o1.2))
  by_cases ht : Told P f (bound ++ (xs.map (·.ev T) ++ caps)) H y H'
  ·obtain ⟨rfl, _, hv⟩ := ht
   obtain ⟨v, h1, h2⟩ := hv ρ w _ exx
   exact (Does.plain hr ⟨v, hrun _ h1, h2⟩ []).wp Q
  ·obtain ⟨fn, h1, h2, h3⟩ := (hC.fn _ _ _ _ _ hz).resolve_right ht
   exact call_wp hC (hrun _ (run_callFunc h1 h2 h3)) exx hz ht hr Q
 ·cases hc
theorem good_load {o : Oper} {t : TypeId} {x : Operand} {r : K × List Opd × Option Nat × List Nat} (hop : o.op = .load t x) (hc : compLoad P h o t x = some r) (hr : Rel P h cx ρ lam T H a w) : Good P h cx C T H a w o r := by
 simp only [compLoad, Option.bind_eq_some_iff] at hc
 obtain ⟨n, hn, ag, hag, hc⟩ := hc
 split at hc
 rotate_left
 ·cases hc
 rename_i u
 cases hl : h.isLoc u with
 | true =>
  rw [hl] at hc
  simp only [cond_true] at hc
  rw [<- mkOp_eq hc |>.symm]
  exact good_p hr fun y hy => A_lload hop hn hag hr.tmps rfl hy
 | false =>
  rw [hl] at hc
  simp only [cond_false] at hc
  split at hc
  ·rename_i b hb
   rw [<- mkOp_eq hc |>.symm]
   exact good_p hr fun y hy => A_lloadp hop hb hn hag hr.tmps hy
  ·rename_i hb
   rw [<- mkOp_eq hc |>.symm]
   exact good_r hr fun y hy => A_load hop hn hag (ev_tmp hr.tmps hl hb) hr.heap hy
theorem good_store {o : Oper} {t : TypeId} {x v : Operand} {r : K × List Opd × Option Nat × List Nat} (hop : o.op = .store t x v) (hc : compStore P h o t x v = some r) (hr : Rel P h cx ρ lam T H a w) : Good P h cx C T H a w o r := by
 simp only [compStore, Option.bind_eq_some_iff] at hc
 obtain ⟨n, hn, y, hy, hc⟩ := hc
 split at hc
 rotate_left
 ·cases hc
 rename_i u hd
 cases hl : h.isLoc u with
 | true =>
  rw [hl] at hc
  simp only [cond_true, Option.some.injEq] at hc
  subst hc
  refine good_of_does fun z H' hz => ?_
  obtain ⟨cs, h1, rfl, rfl⟩ := semK_b hz
  exact D_lstore hop hd hn hy hr h1
 | false =>
  rw [hl] at hc
  simp only [cond_false] at hc
  split at hc
  ·rename_i b hb
   simp only [Option.some.injEq] at hc
   subst hc
   refine good_of_does fun z H' hz => ?_
   obtain ⟨cs, h1, rfl, rfl⟩ := semK_b hz
   exact D_lstorep hop hd hb hn hy hr h1
  ·rename_i hb
   simp only [Option.some.injEq] at hc
   subst hc
   refine good_of_does fun z H' hz => ?_
   exact E_store hop hd hn (ev_tmp hr.tmps hl hb) hy hr hz
theorem good_field {o : Oper} {s : TypeId} {x : Operand} {f : Nat} {r : K × List Opd × Option Nat × List Nat} (hop : o.op = .fieldAddr s x f) (hc : compField P h o s x f = some r) (hr : Rel P h cx ρ lam T H a w) : Good P h cx C T H a w o r := by
 unfold compField at hc
 split at hc
 rotate_left
 ·cases hc
 rename_i fields hu
 split at hc
 rotate_left
 ·cases hc
 rename_i fl hf
 simp only [Option.bind_eq_some_iff] at hc
 obtain ⟨n, hn, hc⟩ := hc
 split at hc
 ·cases hc
 rename_i hn0
 split at hc
 rotate_left
 ·cases hc
 rename_i u
 cases hl : h.isLoc u with
 | true =>
  rw [hl] at hc
  simp only [cond_true] at hc
  cases hi : isDer h o u with
  | false => rw [hi] at hc; simp at hc
  | true =>
   rw [hi] at hc
   simp only [cond_true] at hc
   rw [<- mkOp_eq hc |>.symm]
   refine good_of_does fun z H' hz => ?_
   obtain ⟨h1, rfl⟩ := semK_p hz
   exact D_lfld hop hu hf hn hn0 hi hr h1
 | false =>
  rw [hl] at hc
  simp only [cond_false] at hc
  split at hc
  ·rename_i b hb
   cases hi : isDer h o b with
   | false => rw [hi] at hc; simp at hc
   | true =>
    rw [hi] at hc
    simp only [cond_true] at hc
    rw [<- mkOp_eq hc |>.symm]
    refine good_of_does fun z H' hz => ?_
    obtain ⟨h1, rfl⟩ := semK_p hz
    exact D_lfldp hop hb hu hf hn hn0 hi hr h1
  ·rename_i hb
   rw [<- mkOp_eq hc |>.symm]
   exact good_p hr fun y hy => A_fld hop hu hf hn hn0 (ev_tmp hr.tmps hl hb) hy
theorem good_indexAddr {o : Oper} {t : TypeId} {x i : Operand} {r : K × List Opd × Option Nat × List Nat} (hop : o.op = .indexAddr t x i) (hc : compIndexAddr P h o t x i = some r) (hr : Rel P h cx ρ lam T H a w) : Good P h cx C T H a w o r := by
 simp only [compIndexAddr, Option.bind_eq_some_iff] at hc
 obtain ⟨i', hi', hc⟩ := hc
 split at hc
 ·rename_i e hu
  simp only [Option.bind_eq_some_iff] at hc
  obtain ⟨n, hn, x', hx', hc⟩ := hc
  rw [<- mkOp_eq hc |>.symm]
  exact good_p hr fun y hy => A_idx hop hu hn hx' hi' hr.tmps hy
 ·rename_i len e hu
  simp only [Option.bind_eq_some_iff] at hc
  obtain ⟨n, hn, hc⟩ := hc
  split at hc
  rotate_left
  ·cases hc
  rename_i u
  cases hl : h.isLoc u with
  | true =>
   rw [hl] at hc
   simp only [cond_true] at hc
   cases hi : isDer h o u with
   | false => rw [hi] at hc; simp at hc
   | true =>
    rw [hi] at hc
    simp only [cond_true] at hc
    rw [<- mkOp_eq hc |>.symm]
    refine good_of_does fun z H' hz => ?_
    obtain ⟨h1, rfl⟩ := semK_p hz
    exact D_lidx hop hu hn hi' hi hr h1
  | false =>
   rw [hl] at hc
   simp only [cond_false] at hc
   split at hc
   ·rename_i b hb
    cases hi : isDer h o b with
    | false => rw [hi] at hc; simp at hc
    | true =>
     rw [hi] at hc
     simp only [cond_true] at hc
     rw [<- mkOp_eq hc |>.symm]
     refine good_of_does fun z H' hz => ?_
     obtain ⟨h1, rfl⟩ := semK_p hz
     exact D_lidxp hop hb hu hn hi' hi hr h1
   ·rename_i hb
    rw [<- mkOp_eq hc |>.symm]
    exact good_p hr fun y hy => A_pidx hop hu hn (ev_tmp hr.tmps hl hb) hi' hr.tmps hy
 ·cases hc
theorem good_slice {o : Oper} {t : TypeId} {x : Operand} {lo hi mx : Option Operand} {r : K × List Opd × Option Nat × List Nat} (hop : o.op = .slice t x lo hi mx) (hc : compSlice P h o t x lo hi mx = some r) (hr : Rel P h cx ρ lam T H a w) : Good P h cx C T H a w o r := by
  simp only [compSlice, Option.bind_eq_some_iff] at hc
  obtain ⟨x', hx', l1, h1, l2, h2, l3, h3, hc⟩ := hc
  split at hc
  · rename_i e hu
    simp only [Option.bind_eq_some_iff] at hc
    obtain ⟨n, hn, hc⟩ := hc
    rw [<- mkOp_eq hc |>.symm]
    refine good_r hr fun y hy => ?_
    have ex := ev_opd hr.tmps hx'
    have key : ∀ (oo : Option Operand) (l : List Opd), optOpd h oo = some l -> (oo = none /\ l = []) \/ ∃ y s, oo = some y /\ l.map (·.ev T) = [s] /\ VR ρ H.size s (a.eval y) := fun oo l hl => by
      rcases VR.optInt hr.tmps hl with h | ⟨y, o', h, h', h''⟩
      · exact .inl h
      · exact .inr ⟨y, _, h, by rw [h']; rfl, h''⟩
    simp only [List.map_cons, List.map_append] at hy
    rcases key lo l1 h1 with ⟨rfl, rfl⟩ | ⟨y1, s1, rfl, e1, v1⟩ <;> rcases key hi l2 h2 with ⟨rfl, rfl⟩ | ⟨y2, s2, rfl, e2, v2⟩ <;> rcases key mx l3 h3 with ⟨rfl, rfl⟩ | ⟨y3, s3, rfl, e3, v3⟩ <;>
      simp only [Option.isSome_none, Option.isSome_some, List.map_nil, List.nil_append, List.append_nil, *, List.cons_append] at hy <;>
      generalize hsx : x'.ev T = sx at * <;> cases sx <;> first
        | (simp only [opR, reduceCtorEq] at hy; done)
        | (simp only [opR] at hy
           exact A_slice hop hu hn ex (by first | exact .inl ⟨rfl, rfl⟩ | exact .inr ⟨_, _, rfl, rfl, v1⟩) (by first | exact .inl ⟨rfl, rfl⟩ | exact .inr ⟨_, _, rfl, rfl, v2⟩) (by first | exact .inl ⟨rfl, rfl⟩ | exact .inr ⟨_, _, rfl, rfl, v3⟩) hr.heap rfl hy)
  · rename_i hu
    cases hm : mx with
    | some m => rw [hm] at hc; simp at hc
    | none =>
      rw [hm] at hc
      simp only [Option.isSome_none, cond_false] at hc
      rw [<- mkOp_eq hc |>.symm]
      subst hm
      exact good_p hr fun y hy => A_strcut hop hu hx' h1 h2 hr.tmps hy
  · cases hc
theorem good_all0 {o : Oper} {r : K × List Opd × Option Nat × List Nat} (hC : CallOK P C) (hc : compK0 P h o = some r) (hr : Rel P h cx ρ lam T H a w) : Good P h cx C T H a w o r := by
 unfold compK0 at hc
 split at hc
 ·rename_i x hop
  simp only [Option.bind_eq_some_iff] at hc
  obtain ⟨y, hy, hc⟩ := hc
  rw [<- mkOp_eq hc |>.symm]
  exact good_p hr fun z hz => A_one hr.tmps hy (by simp [execOp, hop]) (by simpa [opP] using hz)
 ·rename_i x hop
  simp only [Option.bind_eq_some_iff] at hc
  obtain ⟨y, hy, hc⟩ := hc
  rw [<- mkOp_eq hc |>.symm]
  exact good_p hr fun z hz => A_one hr.tmps hy (by simp [execOp, hop]) (by simpa [opP] using hz)
 ·rename_i c x y hop
  simp only [Option.bind_eq_some_iff] at hc
  obtain ⟨c', hc', x', hx', y', hy', hc⟩ := hc
  rw [<- mkOp_eq hc |>.symm]
  exact good_p hr fun z hz => A_pick hop hc' hx' hy' hr.tmps hz
 ·rename_i op t x y ty hop
  obtain ⟨h1, k, h2, h3⟩ := A_bin (w := w) hop hc hr.tmps
  refine good_plain hr h1 fun y H' hz => ?_
  rw [h2] at hz
  obtain ⟨h4, rfl⟩ := semK_p hz
  exact ⟨rfl, h3 _ h4⟩
 ·rename_i op t x hop
  simp only [Option.bind_eq_some_iff] at hc
  obtain ⟨y, hy, hc⟩ := hc
  rw [<- mkOp_eq hc |>.symm]
  exact good_p hr fun z hz => A_un hop hy hr.tmps hz
 ·rename_i s d x hop
  simp only [compConv, Option.bind_eq_some_iff] at hc
  obtain ⟨y, hy, hc⟩ := hc
  split at hc
  ·rename_i k' k hs hd
   rw [<- mkOp_eq hc |>.symm]
   exact good_p hr fun z hz => A_conv hop hs hd hy hr.tmps hz
  ·rename_i e hs hd
   split at hc
   ·rename_i he
    rw [<- mkOp_eq hc |>.symm]
    exact good_r hr fun z hz => A_str hop hs he hd hy hr.tmps hr.heap hz
   ·cases hc
  ·cases hc
 ·rename_i x i hop
  simp only [Option.bind_eq_some_iff] at hc
  obtain ⟨y, hy, hc⟩ := hc
  rw [<- mkOp_eq hc |>.symm]
  exact good_p hr fun z hz => A_ext hop hy hr.tmps hz
 ·rename_i c hop
  exact good_call hop hC hc hr
 ·rename_i t x hop
  exact good_load hop hc hr
 ·rename_i t x v hop
  exact good_store hop hc hr
 ·rename_i t hop
  simp only [Option.bind_eq_some_iff] at hc
  obtain ⟨z, hz, hc⟩ := hc
  split at hc
  rotate_left
  ·cases hc
  rename_i d hd
  cases hl : h.isLoc d with
  | true =>
   rw [hl] at hc
   simp only [cond_true, Option.some.injEq] at hc
   subst hc
   refine good_of_does fun y H' hy => ?_
   obtain ⟨cs, h1, rfl, rfl⟩ := semK_b hy
   simp only [List.map_nil, opB, Option.some.injEq] at h1
   subst h1
   exact D_alloc hop hd hl hz hr
  | false =>
   rw [hl] at hc
   simp only [cond_false] at hc
   rw [<- mkOp_eq hc |>.symm]
   refine good_e fun y H' hy => ?_
   simp only [List.map_nil, opE, Option.some.injEq, Prod.mk.injEq] at hy
   obtain ⟨rfl, rfl⟩ := hy
   exact E_alloc hop hz hr
 ·rename_i t x hop
  simp only [Option.bind_eq_some_iff] at hc
  obtain ⟨x', hx', hc⟩ := hc
  split at hc
  rotate_left
  ·cases hc
  rename_i d hd
  cases hl : h.isLoc d with
  | true =>
   rw [hl] at hc
   simp only [cond_true, Option.some.injEq] at hc
   subst hc
   refine good_of_does fun y H' hy => ?_
   obtain ⟨cs, h1, rfl, rfl⟩ := semK_b hy
   exact D_box hop hd hl (ev_opd hr.tmps hx') h1 hr
  | false =>
   rw [hl] at hc
   simp only [cond_false] at hc
   rw [<- mkOp_eq hc |>.symm]
   exact good_e fun y H' hy => E_box hop (ev_opd hr.tmps hx') hr hy
 ·rename_i s x f hop
  exact good_field hop hc hr
 ·rename_i t x i hop
  exact good_indexAddr hop hc hr
 ·rename_i t x i hop
  simp only [compIndex, Option.bind_eq_some_iff] at hc
  obtain ⟨x', hx', i', hi', hc⟩ := hc
  split at hc
  ·rename_i hu
   rw [<- mkOp_eq hc |>.symm]
   exact good_p hr fun z hz => A_stridx hop hu hx' hi' hr.tmps hz
  ·rename_i len e hu
   simp only [Option.bind_eq_some_iff] at hc
   obtain ⟨n, hn, ag, hag, hc⟩ := hc
   rw [<- mkOp_eq hc |>.symm]
   exact good_p hr fun z hz => A_indexv hop hu hn hag hx' hi' hr.tmps hz
  ·cases hc
 ·rename_i s x f hop
  simp only [compFieldV, Option.bind_eq_some_iff] at hc
  obtain ⟨x', hx', hc⟩ := hc
  split at hc
  rotate_left
  ·cases hc
  rename_i fields hu
  split at hc
  rotate_left
  ·cases hc
  rename_i fl hf
  simp only [Option.bind_eq_some_iff] at hc
  obtain ⟨n, hn, ag, hag, hc⟩ := hc
  rw [<- mkOp_eq hc |>.symm]
  exact good_p hr fun z hz => A_fieldv hop hu hf hn hag hx' hr.tmps hz
 ·rename_i t ps hop
  simp only [compBuild, Option.bind_eq_some_iff] at hc
  obtain ⟨xs, hx, z, hz, hc⟩ := hc
  split at hc
  ·rename_i fields hu
   simp only [Option.bind_eq_some_iff] at hc
   obtain ⟨pl, hpl, hc⟩ := hc
   cases hs : sizesOk P fields with
   | false => rw [hs] at hc; simp at hc
   | true =>
    rw [hs] at hc
    simp only [cond_true] at hc
    rw [<- mkOp_eq hc |>.symm]
    exact good_p hr fun y hy => A_build hop hx hz (.inl ⟨fields, hu, hpl, hs⟩) hr.tmps hy
  ·rename_i len e hu
   simp only [Option.bind_eq_some_iff] at hc
   obtain ⟨n, hn, hc⟩ := hc
   rw [<- mkOp_eq hc |>.symm]
   exact good_p hr fun y hy => A_build hop hx hz (.inr ⟨len, e, n, hu, hn, rfl⟩) hr.tmps hy
  ·cases hc
 ·rename_i t n ps hop
  simp only [compBuildSlice, Option.bind_eq_some_iff] at hc
  obtain ⟨xs, hx, hc⟩ := hc
  split at hc
  rotate_left
  ·cases hc
  rename_i e hu
  simp only [Option.bind_eq_some_iff] at hc
  obtain ⟨z, hz, hc⟩ := hc
  split at hc
  rotate_left
  ·cases hc
  rename_i hzl
  rw [<- mkOp_eq hc |>.symm]
  exact good_e fun y H' hy => E_build hop hu hz hzl hx hr hy
 ·rename_i t l c hop
  simp only [compMakeSlice, Option.bind_eq_some_iff] at hc
  obtain ⟨l', hl', c', hc', hc⟩ := hc
  split at hc
  rotate_left
  ·cases hc
  rename_i e hu
  simp only [Option.bind_eq_some_iff] at hc
  obtain ⟨z, hz, by_, hb, hc⟩ := hc
  rw [<- mkOp_eq hc |>.symm]
  exact good_e fun y H' hy => E_make hop hu hz hb hl' hc' hr hy
 ·rename_i t x lo hi mx hop
  exact good_slice hop hc hr
 ·rename_i f first captured hop
  simp only [Option.bind_eq_some_iff] at hc
  obtain ⟨xs, hx, hc⟩ := hc
  rw [<- mkOp_eq hc |>.symm]
  exact good_p hr fun y hy => A_mkfn hop hx hr.tmps hy
 ·rename_i x hop
  simp only [Option.bind_eq_some_iff] at hc
  obtain ⟨y, hy, hc⟩ := hc
  rw [<- mkOp_eq hc |>.symm]
  exact good_p hr fun z hz => A_nilchk hop hy hr.tmps hz
 ·cases hc
theorem good_all {o : Oper} {r : K × List Opd × Option Nat × List Nat} (hC : CallOK P C) (hc : compK P h o = some r) (hr : Rel P h cx ρ lam T H a w) : Good P h cx C T H a w o r := by
 unfold compK at hc
 split at hc
 ·rename_i r' hk
  cases hc
  exact good_all0 hC hk hr
 ·rw [<- mkOp_eq hc |>.symm]
  exact good_p hr fun y hy => by
   have hy' : (none : Option SV) = some y := hy
   cases hy'
end
end Go.Sh

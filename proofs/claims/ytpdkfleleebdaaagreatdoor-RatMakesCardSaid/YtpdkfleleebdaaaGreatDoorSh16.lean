/- Code. -/
import Derived.Test.YtpdkfleleebdaaaGreatDoorSh15
set_option linter.unusedVariables false
set_option linter.unusedSimpArgs false
namespace Go.Sh
open Go
theorem upon_mono {P : Program} {o : Oper} {a : Act} {next next' : Act -> World -> Prop} {Q : Exit -> Act -> World -> Prop} {r : Result Next} (hu : o.upon P a next Q r) (hn : ∀ a w, next a w -> next' a w) : o.upon P a next' Q r := by
  cases r with
  | ok n w' =>
    cases n <;> simp only [Oper.upon] at hu ⊢ <;> first
      | exact hn _ _ hu
      | (refine Calls.mono hu fun e w'' he => ?_
         cases e <;> first | exact hn _ _ he | exact he)
      | exact Rows.mono hu fun v w'' hv => hn _ _ hv
      | exact hu
  | halt x w' => cases x <;> simp only [Oper.upon] at hu ⊢ <;> exact hu
theorem owp_mono {P : Program} {o : Oper} {a : Act} {w : World} {next next' : Act -> World -> Prop} {Q : Exit -> Act -> World -> Prop} (hu : o.wp P a w next Q) (hn : ∀ a w, next a w -> next' a w) : o.wp P a w next' Q := upon_mono hu hn
section
variable {P : Program} {h : Hints} {cx : Ctx} {C : CallC} {R : Type}
theorem run_sem (o : Op) (T : Tmps) (H : Heap) (k : Tmps -> Heap -> Option R) : o.run (viaC C) T H k = (semK C o.k (o.args.map (·.ev T)) H).bind fun p => k (setD (clear T o.clr) o.dst p.1) p.2 := by
 unfold Op.run semK
 cases o.k with
 | p pk => dsimp only; cases opP pk (o.args.map (·.ev T)) <;> rfl
 | b bk => dsimp only; cases opB bk (o.args.map (·.ev T)) <;> rfl
 | r rk => dsimp only; cases opR rk (o.args.map (·.ev T)) H <;> rfl
 | e ek => rfl
 | call f => rfl
 | callv =>
  simp only
  generalize o.args.map (·.ev T) = xs
  cases xs with
  | nil => rfl
  | cons x xs => cases x <;> rfl
def Kn (P : Program) (h : Hints) (cx : Ctx) (k : Tmps -> Heap -> Option R) (res : R) (a : Act) (w : World) : Prop := ∃ T H, After P h cx T H a w /\ T.length = h.nt /\ k T H = some res
theorem set_getT {T : Tmps} {g : Nat} {v : SV} (hg : T[g]? = some v) : T.set g v = T := by
 apply List.ext_getElem?
 intro j
 rw [List.getElem?_set]
 split
 ·rename_i e; subst e
  split
  ·exact hg.symm
  ·rename_i hl; rw [List.getElem?_eq_none (by omega)]
 ·rfl
theorem guard_ok {ρ : Place} {lam : Nat -> Nat} {T : Tmps} {H : Heap} {a : Act} {w : World} (hr : Rel P h cx ρ lam T H a w) {ops : Array Oper} {o : Oper} {j g : Nat} {want : Bool} (hg : o.guard = some (j, want)) (hd : (ops[j]?).bind (·.dst) = some g) {F : Bool -> Option R} {U : Option R} {res : R}
  (hk : guardK (getT T g) F U = some res) : (∃ b, getT T g = .bool b /\ T.set g (.bool b) = T /\ F b = some res /\ Region.wanted o (yielded ops a.tmps) = boolEq b want) \/ (T.set g .undef = T /\ U = some res /\ Region.wanted o (yielded ops a.tmps) = false) := by
 have hb : (∃ b, getT T g = .bool b /\ F b = some res) \/ (getT T g = .undef /\ U = some res) := by
  unfold guardK at hk
  split at hk
  ·rename_i e; exact .inl ⟨true, e, hk⟩
  ·rename_i e; exact .inl ⟨false, e, hk⟩
  ·rename_i e; exact .inr ⟨e, hk⟩
  ·cases hk
 rcases hb with hb | ⟨e1, e2⟩
 rotate_left
 ·right
  obtain ⟨s1, s2⟩ := slot_of hr.tmps (t := g) (by rw [e1]; simp)
  rw [e1] at s1 s2
  simp only [SlotRel, conc] at s1
  refine ⟨set_getT s2, e2, ?_⟩
  have hy : yielded ops a.tmps j = none := by
   have := s1.2
   rw [Array.getD_eq_getD_getElem?] at this
   simp only [yielded, hd, Option.bind_some]
   cases ht : a.tmps[g]? with
   | none => rfl
   | some v => rw [ht] at this; simp at this; rw [this]; rfl
  simp only [Region.wanted, hg, hy]
  cases want <;> rfl
 left
 obtain ⟨b, e1, e2⟩ := hb
 obtain ⟨s1, s2⟩ := slot_of hr.tmps (t := g) (by rw [e1]; simp)
 rw [e1] at s1 s2
 simp only [SlotRel, conc] at s1
 have hv : a.tmps[g]? = some (.bool b) := by
  have := s1.2
  rw [Array.getD_eq_getD_getElem?] at this
  cases ht : a.tmps[g]? with
  | none => rw [ht] at this; simp [Go.undef] at this
  | some v => rw [ht] at this; simp at this; rw [this]
 refine ⟨b, e1, set_getT s2, e2, ?_⟩
 simp only [Region.wanted, hg, yielded, hd, Option.bind_some, hv]
 cases b <;> cases want <;> rfl
theorem sameOpt_eq {a b : Option Nat} (h : sameOpt a b = true) : a = b := by
 cases a <;> cases b <;> simp_all [sameOpt]
theorem compOp_ok {ops : Array Oper} {o : Oper} {co : Op} (hc : compOp P h ops o = some co) : ∃ r, compK P h o = some r /\ co.k = r.1 /\ co.args = r.2.1 /\ co.dst = r.2.2.1 /\ co.clr = r.2.2.2 /\ dstOk o co.k co.dst = true /\ 
  ((o.guard = none /\ co.guard = none) \/ ∃ j want g, o.guard = some (j, want) /\ (ops[j]?).bind (·.dst) = some g /\ co.guard = some (g, want)) := by
 simp only [compOp, Option.bind_eq_some_iff] at hc
 obtain ⟨r, hr, hc⟩ := hc
 refine ⟨r, hr, ?_⟩
 cases hd : dstOk o r.1 r.2.2.1 with
 | false => rw [hd] at hc; simp at hc
 | true =>
  rw [hd] at hc
  simp only [cond_true] at hc
  split at hc
  ·rename_i hg
   simp only [Option.some.injEq] at hc
   subst hc
   exact ⟨rfl, rfl, rfl, rfl, hd, .inl ⟨hg, rfl⟩⟩
  ·rename_i j want hg
   simp only [Option.map_eq_some_iff] at hc
   obtain ⟨g, hd', rfl⟩ := hc
   exact ⟨rfl, rfl, rfl, rfl, hd, .inr ⟨j, want, g, hg, hd', rfl⟩⟩
theorem skip_ok {ρ : Place} {lam : Nat -> Nat} {T : Tmps} {H : Heap} {a : Act} {w : World} (hr : Rel P h cx ρ lam T H a w) {o : Oper} {co : Op} (hd : dstOk o co.k co.dst = true) : Rel P h cx ρ lam (co.skipT T) H (a.put o.dst Go.undef) w := by
 unfold dstOk at hd
 unfold Op.skipT
 cases hs : isSt co.k with
 | true =>
  rw [hs] at hd
  simp only [cond_true] at hd ⊢
  have : o.dst = none := by cases ho : o.dst <;> simp_all
  rw [this]
  exact hr
 | false =>
  rw [hs] at hd
  simp only [cond_false] at hd ⊢
  rw [sameOpt_eq hd]
  exact ⟨hr.heap, hr.tmps.put_vr o.dst (.inr ⟨by simp [okSV], rfl⟩)⟩
theorem len_setD (T : Tmps) (d : Option Nat) (y : SV) : (setD T d y).length = T.length := by cases d <;> simp [setD]
theorem len_after (T : Tmps) (l : List Nat) (d : Option Nat) (y : SV) : (setD (clear T l) d y).length = T.length := by rw [len_setD, clear_len]
theorem step_sound (hC : CallOK P C) {ops : Array Oper} {o : Oper} {co : Op} (hc : compOp P h ops o = some co) {T : Tmps} {H : Heap} {k : Tmps -> Heap -> Option R} {res : R} (hs : co.step (viaC C) T H k = some res)
  {a : Act} {w : World} (hr : After P h cx T H a w) (hT : T.length = h.nt) {Q : Exit -> Act -> World -> Prop} {K : Act -> World -> Prop} (hK : ∀ a w, Kn P h cx k res a w -> K a w) :
  if Region.wanted o (yielded ops a.tmps) then o.wp P a w K Q else K (a.put o.dst Go.undef) w := by
 obtain ⟨ρ, lam, hr⟩ := hr
 obtain ⟨r, hk, e1, e2, e3, e4, hd, hg⟩ := compOp_ok hc
 have main : co.run (viaC C) T H k = some res -> o.wp P a w K Q := fun hrun => by
  rw [run_sem, Option.bind_eq_some_iff] at hrun
  obtain ⟨⟨y, H'⟩, hz, hk'⟩ := hrun
  rw [e1, e2] at hz
  rw [e3, e4] at hk'
  exact owp_mono (good_all hC hk hr y H' hz Q) fun a' w' ha => hK a' w' ⟨_, _, ha, by rw [<- hT]; exact len_after _ _ _ _, hk'⟩
 rcases hg with ⟨g1, g2⟩ | ⟨j, want, g, g1, g2, g3⟩
 ·rw [if_pos (by simp [Region.wanted, g1])]
  unfold Op.step at hs
  rw [g2] at hs
  exact main hs
 ·unfold Op.step at hs
  rw [g3] at hs
  rcases guard_ok hr g1 g2 hs with ⟨b, b1, b2, b3, b4⟩ | ⟨b2, b3, b4⟩
  rotate_left
  ·rw [b4]
   rw [b2] at b3
   simp only [Bool.false_eq_true, if_false]
   exact hK _ _ ⟨_, _, ⟨ρ, lam, skip_ok hr hd⟩, by rw [<- hT]; unfold Op.skipT; cases isSt co.k <;> simp [len_setD], b3⟩
  rw [b4]
  simp only [b2] at b3
  cases hbw : boolEq b want with
  | true =>
   rw [hbw] at b3
   simp only [if_true]
   exact main b3
  | false =>
   rw [hbw] at b3
   simp only [cond_false] at b3
   simp only [Bool.false_eq_true, if_false]
   exact hK _ _ ⟨_, _, ⟨ρ, lam, skip_ok hr hd⟩, by rw [<- hT]; unfold Op.skipT; cases isSt co.k <;> simp [len_setD], b3⟩
theorem runOps_sound (hC : CallOK P C) (ops : Array Oper) {Q : Exit -> Act -> World -> Prop} {k : Tmps -> Heap -> Option R} {res : R} (hQ : ∀ a w, Kn P h cx k res a w -> Q .normal a w) :
  ∀ (l : List Oper) (cl : List Op) (T : Tmps) (H : Heap) (a : Act) (w : World), compOps P h ops l = some cl -> runOps (viaC C) cl T H k = some res -> After P h cx T H a w -> T.length = h.nt -> wpList P ops Q l a w
 | [], cl, T, H, a, w, hc, hs, hr, hT => by
  simp [compOps] at hc; subst hc
  exact hQ a w ⟨T, H, hr, hT, hs⟩
 | o :: l, cl, T, H, a, w, hc, hs, hr, hT => by
  simp only [compOps, Option.bind_eq_some_iff, Option.map_eq_some_iff] at hc
  obtain ⟨co, hco, cl', hcl, rfl⟩ := hc
  have := step_sound (Q := Q) hC hco hs hr hT (K := wpList P ops Q l) (fun a' w' ⟨T', H', hr', hT', hk'⟩ => runOps_sound hC ops hQ l cl' T' H' a' w' hcl hk' hr' hT')
  unfold wpList
  split
  ·rename_i hw; rw [if_pos hw] at this; exact .inl this
  ·rename_i hw; rw [if_neg hw] at this; exact this
def Post (P : Program) (h : Hints) (cx : Ctx) (kn : Tmps -> Heap -> Option R) (ke : Nat -> Tmps -> Heap -> Option R) (kr : Tmps -> Heap -> Option R) (res : R) : Exit -> Act -> World -> Prop
 | .normal, a, w => Kn P h cx kn res a w
 | .exit id, a, w => Kn P h cx (ke id) res a w
 | .ret, a, w => Kn P h cx kr res a w
 | _, _, _ => False
def LoopWp (P : Program) (c : Code) (Q : Exit -> Act -> World -> Prop) (a : Act) (w : World) : Prop :=
 ∀ (b : Frame) (k : List Item) (cs : List Frame), ∃ e a' w', Q e a' w' /\ Arrives P (lone (b.at a (.code c :: .inLoop c :: k)) cs w) b k cs e a' w'
theorem loop_of {c : Code} {Q : Exit -> Act -> World -> Prop} {a : Act} {w : World} (hl : LoopWp P c Q a w) : (Code.loop c).wp P Q a w := fun b k cs => by
 obtain ⟨e, a', w', hq, harr⟩ := hl b k cs
 exact ⟨e, a', w', hq, .of_steps (.one step_loop) harr⟩
theorem loop_round {c : Code} {Q : Exit -> Act -> World -> Prop} {a : Act} {w : World} (hr : c.wp P (Exit.then (LoopWp P c Q) Q) a w) : LoopWp P c Q a w := fun b k cs => by
 obtain ⟨e, a₁, w₁, hq, harr⟩ := hr b (.inLoop c :: k) cs
 cases e with
 | normal =>
  obtain ⟨e₂, a₂, w₂, hq₂, harr₂⟩ := hq b k cs
  exact ⟨e₂, a₂, w₂, hq₂, .of_steps (Steps.trans harr (.one step_inLoop)) harr₂⟩
 | exit id => exact ⟨_, a₁, w₁, hq, .pass (x := .inLoop c) rfl (fun _ _ => .inl (by simp)) harr⟩
 | goto l => exact ⟨_, a₁, w₁, hq, .pass (x := .inLoop c) rfl (fun _ _ => .inl (by simp)) harr⟩
 | ret => exact ⟨_, a₁, w₁, hq, .pass (x := .inLoop c) rfl (fun _ _ => .inl (by simp)) harr⟩
 | panic ch => exact ⟨_, a₁, w₁, hq, .pass (x := .inLoop c) rfl (fun _ _ => .inl (by simp)) harr⟩
 | outgrown => exact ⟨_, a₁, w₁, hq, .pass (x := .inLoop c) rfl (fun _ _ => .inl (by simp)) harr⟩
theorem unprojFrom_get (live : List Nat) (vs : List SV) : ∀ (n i t : Nat) (v : SV), (unprojFrom live vs n i)[t]? = some v -> v = .junk \/ ∃ j, placeOf live (i + t) = some j /\ v = getT vs j
 | 0, i, t, v, hv => by simp [unprojFrom] at hv
 | n + 1, i, t, v, hv => by
  cases t with
  | zero =>
   simp only [unprojFrom, List.getElem?_cons_zero, Option.some.injEq] at hv
   cases hp : placeOf live i with
   | none => rw [hp] at hv; exact .inl hv.symm
   | some j => rw [hp] at hv; exact .inr ⟨j, by first | rfl | exact hp, hv.symm⟩
  | succ t =>
   simp only [unprojFrom, List.getElem?_cons_succ] at hv
   have := unprojFrom_get live vs n (i + 1) t v hv
   rwa [show i + 1 + t = i + (t + 1) by omega] at this
theorem unprojFrom_len (live : List Nat) (vs : List SV) : ∀ (n i : Nat), (unprojFrom live vs n i).length = n
 | 0, i => rfl
 | n + 1, i => by simp [unprojFrom, unprojFrom_len live vs n (i + 1)]
theorem proj_get (T : Tmps) : ∀ (live : List Nat) (t j : Nat), placeOf live t = some j -> getT (proj T live) j = getT T t
 | [], t, j, h => by simp [placeOf] at h
 | n :: live, t, j, h => by
  simp only [placeOf] at h
  cases hb : Nat.beq n t with
  | true =>
   simp only [hb, cond_true, Option.some.injEq] at h
   subst h
   have := Nat.eq_of_beq_eq_true hb
   subst this
   simp [proj, getT]
  | false =>
   simp only [hb, cond_false, Option.map_eq_some_iff] at h
   obtain ⟨j', hj', rfl⟩ := h
   have := proj_get T live t j' hj'
   simpa [proj, getT] using this
theorem unproj_slot (T : Tmps) (live : List Nat) {t : Nat} {v : SV} (hv : (unproj T.length live (proj T live))[t]? = some v) : v = .junk \/ T[t]? = some v := by
 rcases unprojFrom_get live (proj T live) T.length 0 t v hv with h | ⟨j, hj, rfl⟩
 ·exact .inl h
 ·rw [Nat.zero_add] at hj
  rw [proj_get T live t j hj]
  rcases getT_cases T t with h | h
  ·exact .inr h
  ·exact .inl h
theorem After.forget {T : Tmps} {H : Heap} {a : Act} {w : World} {nt : Nat} (hr : After P h cx T H a w) (hn : T.length = nt) (live : List Nat) : After P h cx (unproj nt live (proj T live)) H a w := by
 obtain ⟨ρ, lam, hr⟩ := hr
 subst hn
 have key : ∀ (t : Nat) (cs : List SV), (unproj T.length live (proj T live))[t]? = some (SV.box cs) -> T[t]? = some (SV.box cs) := fun t cs hv => by
  rcases unproj_slot T live hv with h | h
  ·cases h
  ·exact h
 refine ⟨ρ, lam, hr.heap, ⟨by rw [unproj, unprojFrom_len]; exact hr.tmps.len, fun t v hv => ?_, fun t cs hv => hr.tmps.box t cs (key t cs hv), fun t t' c c' hv hv' => hr.tmps.boxsep t t' c c' (key t c hv) (key t' c' hv'),
  fun t cs hv => hr.tmps.boxrow t cs (key t cs hv), fun t cs hv => hr.tmps.boxloc t cs (key t cs hv), fun t cs hv => hr.tmps.boxnew t cs (key t cs hv), hr.tmps.nodefer⟩⟩
 rcases unproj_slot T live hv with rfl | h
 ·trivial
 ·exact hr.tmps.slot t v h
def DrawSound (P : Program) (h : Hints) (C : CallC) : Prop := ∀ (R : Type) (cx : Ctx) (ops : Array Oper) (cl : List Op) (T : Tmps) (H : Heap) (a : Act) (w : World) (k : Tmps -> Heap -> Option R) (res : R) (Q : Exit -> Act -> World -> Prop) (id : Nat),
 compOps P h ops ops.toList = some cl -> (edgesOk ops.toList && drawOk cl (precs ops.toList)) = true -> runDraw (viaC C) (drawPairs cl (precs ops.toList)) cl [] T H k = some res -> After P h cx T H a w -> T.length = h.nt ->
  (∀ a w, Kn P h cx k res a w -> Q .normal a w) -> (Code.region id ops true).wp P Q a w
theorem Post.seq {kn kn' : Tmps -> Heap -> Option R} {ke : Nat -> Tmps -> Heap -> Option R} {kr : Tmps -> Heap -> Option R} {res : R} {next : Act -> World -> Prop} (hn : ∀ a w, Kn P h cx kn res a w -> next a w) {e : Exit} {a : Act} {w : World}
  (hp : Post P h cx kn ke kr res e a w) : Exit.then next (Post P h cx kn' ke kr res) e a w := by
 cases e <;> first | exact hn _ _ hp | exact hp
theorem exec_sound (hC : CallOK P C) (hD : DrawSound P h C) (K : Nat) {res : R} : ∀ (c : Code) (cc : CC) (T : Tmps) (H : Heap) (a : Act) (w : World) (kn : Tmps -> Heap -> Option R) (ke : Nat -> Tmps -> Heap -> Option R) (kr : Tmps -> Heap -> Option R),
  compCode P h c = some cc -> exec K (viaC C) cc T H kn ke kr = some res -> After P h cx T H a w -> T.length = h.nt -> c.wp P (Post P h cx kn ke kr res) a w
 | .skip, cc, T, H, a, w, kn, ke, kr, hc, hs, hr, hT => by
  simp only [compCode, Option.some.injEq] at hc; subst hc
  exact wp_skip ⟨T, H, hr, hT, hs⟩
 | .ret, cc, T, H, a, w, kn, ke, kr, hc, hs, hr, hT => by
  simp only [compCode, Option.some.injEq] at hc; subst hc
  exact wp_ret ⟨T, H, hr, hT, hs⟩
 | .label l, cc, T, H, a, w, kn, ke, kr, hc, hs, hr, hT => by
  simp only [compCode, Option.some.injEq] at hc; subst hc
  exact wp_label ⟨T, H, hr, hT, hs⟩
 | .exit id, cc, T, H, a, w, kn, ke, kr, hc, hs, hr, hT => by
  simp only [compCode, Option.some.injEq] at hc; subst hc
  exact wp_exit ⟨T, H, hr, hT, hs⟩
 | .region id ops false, cc, T, H, a, w, kn, ke, kr, hc, hs, hr, hT => by
  simp only [compCode, Option.map_eq_some_iff] at hc
  obtain ⟨cl, hcl, rfl⟩ := hc
  simp only [exec] at hs
  exact wp_region_list (runOps_sound (R := R) hC ops (Q := Post P h cx kn ke kr res) (k := kn) (res := res) (fun a w hk => hk) ops.toList cl T H a w hcl hs hr hT)
 | .region id ops true, cc, T, H, a, w, kn, ke, kr, hc, hs, hr, hT => by
  simp only [compCode, Option.bind_eq_some_iff] at hc
  obtain ⟨cl, hcl, hc⟩ := hc
  cases hb : (edgesOk ops.toList && drawOk cl (precs ops.toList)) with
  | false => rw [hb] at hc; simp at hc
  | true =>
   rw [hb] at hc
   simp only [cond_true, Option.some.injEq] at hc
   subst hc
   simp only [exec] at hs
   exact hD R cx ops cl T H a w kn res (Post P h cx kn ke kr res) id hcl hb hs hr hT (fun a w hk => hk)
 | .seq x y, cc, T, H, a, w, kn, ke, kr, hc, hs, hr, hT => by
  simp only [compCode, Option.bind_eq_some_iff, Option.map_eq_some_iff] at hc
  obtain ⟨cx', hx, cy, hy, rfl⟩ := hc
  simp only [exec] at hs
  refine wp_seq (Code.wp_mono (fun e a' w' hp => ?_) (exec_sound hC hD K x cx' T H a w _ ke kr hx hs hr hT))
  exact Post.seq (fun a w ⟨T', H', hr', hT', hk⟩ => exec_sound hC hD K y cy T' H' a w kn ke kr hy hk hr' hT') hp
 | .cond c x y, cc, T, H, a, w, kn, ke, kr, hc, hs, hr, hT => by
  simp only [compCode, Option.bind_eq_some_iff, Option.map_eq_some_iff] at hc
  obtain ⟨c', hc', cx', hx, cy, hy, rfl⟩ := hc
  simp only [exec] at hs
  obtain ⟨ρ, lam, hr0⟩ := hr
  have ec := ev_opd hr0.tmps hc'
  unfold condK at hs
  split at hs
  ·rename_i e
   rw [e] at ec
   have := (ec.ne (by simp)).2
   exact wp_cond_true (by simpa [conc] using this) (exec_sound hC hD K x cx' T H a w kn ke kr hx hs ⟨ρ, lam, hr0⟩ hT)
  ·rename_i e
   rw [e] at ec
   have := (ec.ne (by simp)).2
   exact wp_cond_false (by simpa [conc] using this) (exec_sound hC hD K y cy T H a w kn ke kr hy hs ⟨ρ, lam, hr0⟩ hT)
  ·cases hs
 | .block id c, cc, T, H, a, w, kn, ke, kr, hc, hs, hr, hT => by
  simp only [compCode, Option.map_eq_some_iff] at hc
  obtain ⟨c', hc', rfl⟩ := hc
  simp only [exec] at hs
  refine wp_block (Code.wp_mono (fun e a' w' hp => ?_) (exec_sound hC hD K c c' T H a w _ _ kr hc' hs hr hT))
  cases e with
  | exit i =>
   simp only [Exit.inBlock, Post] at hp ⊢
   obtain ⟨T', H', hr', hT', hk⟩ := hp
   split
   ·rename_i e; subst e
    have : Nat.beq i i = true := Nat.beq_refl i
    rw [this] at hk
    exact ⟨T', H', hr', hT', hk⟩
   ·rename_i e
    have : Nat.beq i id = false := by
     cases hb : Nat.beq i id with
     | false => rfl
     | true => exact absurd (Nat.eq_of_beq_eq_true hb) e
    rw [this] at hk
    exact ⟨T', H', hr', hT', hk⟩
  | _ => exact hp
 | .loop c, cc, T, H, a, w, kn, ke, kr, hc, hs, hr, hT => by
  simp only [compCode, Option.map_eq_some_iff] at hc
  obtain ⟨c', hc', rfl⟩ := hc
  simp only [exec] at hs
  refine loop_of ?_
  generalize (assoc h.live (firstRegion c)).getD [] = live at *
  have key : ∀ n T H a w, loopN (fun vs H k => exec K (viaC C) c' (unproj h.nt live vs) H (fun T' H' => k (proj T' live) H') ke kr) n (proj T live) H = some res -> After P h cx T H a w -> T.length = h.nt ->
    LoopWp P c (Post P h cx kn ke kr res) a w := by
   intro n
   induction n with
   | zero => intro T H a w hs _ _; simp [loopN] at hs
   | succ n ih =>
    intro T H a w hs hr hT
    simp only [loopN] at hs
    refine loop_round (Code.wp_mono (fun e a' w' hp => ?_) (exec_sound hC hD K c c' _ H a w _ ke kr hc' hs (hr.forget hT live) (by rw [unproj, unprojFrom_len])))
    exact Post.seq (fun a w ⟨T', H', hr', hT', hk⟩ => ih T' H' a w hk hr' hT') hp
  exact key K T H a w hs hr hT
 | .scope c, cc, T, H, a, w, kn, ke, kr, hc, hs, hr, hT => by
  simp only [compCode, Option.map_eq_some_iff] at hc
  obtain ⟨c', hc', rfl⟩ := hc
  simp only [exec] at hs
  refine wp_scope_straight (Code.wp_mono (fun e a' w' hp => ?_) (exec_sound hC hD K c c' T H a w kn ke kr hc' hs hr hT))
  cases e <;> exact hp
 | .rangeFunc .., cc, T, H, a, w, kn, ke, kr, hc, hs, hr, hT => by simp [compCode] at hc
 | .goto _, cc, T, H, a, w, kn, ke, kr, hc, hs, hr, hT => by simp [compCode] at hc
 | .refuse _, cc, T, H, a, w, kn, ke, kr, hc, hs, hr, hT => by simp [compCode] at hc
end
end Go.Sh

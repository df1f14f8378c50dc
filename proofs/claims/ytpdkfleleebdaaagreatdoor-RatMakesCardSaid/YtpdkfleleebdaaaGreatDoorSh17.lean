/- Steps on their own: what an operation turns, and that heaps only grow. -/
import Derived.Test.YtpdkfleleebdaaaGreatDoorSh16
set_option linter.unusedVariables false
set_option linter.unusedSimpArgs false
namespace Go.Sh
open Go
theorem write_ext {H H' : Heap} {r o : Nat} {vs : List SV} (h : H.write r o vs = some H') : HExt H H' := by
 unfold Heap.write at h
 cases hg : H.get r with
 | none => rw [hg] at h; cases h
 | some row =>
  rw [hg] at h
  simp only at h
  cases hb : Nat.beq row.kind 2 with
  | false => rw [hb] at h; cases h
  | true =>
   rw [hb] at h
   simp only [cond_true, Option.map_eq_some_iff] at h
   obtain ⟨cs, _, rfl⟩ := h
   exact (HExt.refl H).set hg _ (Nat.lt_succ_self _) (fun _ => rfl)
theorem kill_ext {H : Heap} {r : Nat} {row : Row} (hg : H.get r = some row) : HExt H (H.kill r row) :=
 (HExt.refl H).set hg _ (Nat.lt_succ_self _) (fun h => absurd rfl h)
theorem append_ext {H H' : Heap} {sz bytes n : Nat} {s : Sl} {src : List SV} {y : SV} (h : appendOp H sz bytes s n src = some (y, H')) : HExt H H' := by
 unfold appendOp at h
 cases hb : (Nat.ble 1 sz && roomy (s.len + n) bytes) with
 | false => rw [hb] at h; cases h
 | true =>
  rw [hb] at h
  simp only [cond_true] at h
  cases hn : Nat.beq n 0 with
  | true => rw [hn] at h; simp only [cond_true, Option.some.injEq, Prod.mk.injEq] at h; obtain ⟨_, rfl⟩ := h; exact HExt.refl _
  | false =>
   rw [hn] at h
   simp only [cond_false] at h
   split at h
   ·revert h
    cases (Nat.beq s.len 0 && capZero s.cap) with
    | false => intro h; cases h
    | true =>
     intro h
     simp only [cond_true, Option.some.injEq, Prod.mk.injEq] at h
     obtain ⟨_, rfl⟩ := h
     exact (HExt.refl H).push _ rfl
   ·rename_i r o hbase
    split at h
    ·rename_i row hg
     revert h
     cases (Nat.beq row.kind 2 && Nat.beq row.esz sz && Nat.beq (o % sz) 0 && capRoom s.cap (s.len + n) o sz row.cells.length) with
     | false => intro h; cases h
     | true =>
      intro h
      simp only [cond_true, Option.map_eq_some_iff, Prod.mk.injEq] at h
      obtain ⟨old, _, _, rfl⟩ := h
      exact (kill_ext hg).push _ rfl
    ·cases h
theorem opE_ext {ek : EK} {xs : List SV} {H H' : Heap} {y : SV} (h : opE ek xs H = some (y, H')) : HExt H H' := by
 unfold opE at h
 split at h
 ·revert h
  rename_i n p x
  cases (x.item && Nat.beq x.cells.length n) with
  | false => intro h; cases h
  | true =>
   intro h
   simp only [cond_true, Option.map_eq_some_iff, Prod.mk.injEq] at h
   obtain ⟨_, h, _, rfl⟩ := h
   exact write_ext h
 ·simp only [Option.bind_eq_some_iff] at h
  obtain ⟨src, _, h⟩ := h
  exact append_ext h
 ·exact append_ext h
 ·simp only [Option.bind_eq_some_iff] at h
  obtain ⟨src, _, h⟩ := h
  split at h
  ·simp only [Option.some.injEq, Prod.mk.injEq] at h; obtain ⟨_, rfl⟩ := h; exact HExt.refl _
  ·simp only [Option.map_eq_some_iff, Prod.mk.injEq] at h
   obtain ⟨_, h, _, rfl⟩ := h
   exact write_ext h
 ·revert h
  rename_i sz zr places
  cases (Nat.beq places.length xs.length && Nat.ble 1 sz && Nat.ble zr.length 1000000) with
  | false => intro h; cases h
  | true =>
   intro h
   simp only [cond_true, Option.map_eq_some_iff, Prod.mk.injEq] at h
   obtain ⟨_, _, _, rfl⟩ := h
   exact (HExt.refl H).push _ rfl
 ·split at h
  ·simp only [Option.some.injEq, Prod.mk.injEq] at h
   obtain ⟨_, rfl⟩ := h
   exact (HExt.refl H).push _ rfl
  ·cases h
 ·simp only [Option.some.injEq, Prod.mk.injEq] at h
  obtain ⟨_, rfl⟩ := h
  exact (HExt.refl H).push _ rfl
 ·revert h
  rename_i x
  cases x.item with
  | false => intro h; cases h
  | true =>
   intro h
   simp only [cond_true, Option.some.injEq, Prod.mk.injEq] at h
   obtain ⟨_, rfl⟩ := h
   exact (HExt.refl H).push _ rfl
 ·cases h
def ExtC (C : CallC) : Prop := ∀ g xs H r H', C g xs H = some (r, H') -> HExt H H'
theorem semK_ext {C : CallC} (hC : ExtC C) {k : K} {xs : List SV} {H H' : Heap} {y : SV} (h : semK C k xs H = some (y, H')) : HExt H H' := by
 unfold semK at h
 split at h
 ·simp only [Option.map_eq_some_iff, Prod.mk.injEq] at h; obtain ⟨_, _, _, rfl⟩ := h; exact HExt.refl _
 ·simp only [Option.map_eq_some_iff, Prod.mk.injEq] at h; obtain ⟨_, _, _, rfl⟩ := h; exact HExt.refl _
 ·simp only [Option.map_eq_some_iff, Prod.mk.injEq] at h; obtain ⟨_, _, _, rfl⟩ := h; exact HExt.refl _
 ·exact opE_ext h
 ·exact hC _ _ _ _ _ h
 ·unfold callVS at h
  split at h
  ·exact hC _ _ _ _ _ h
  ·cases h
def Op.runS (C : CallC) (o : Op) (T : Tmps) (H : Heap) : Option (Tmps × Heap) := (semK C o.k (o.args.map (·.ev T)) H).map fun p => (setD (clear T o.clr) o.dst p.1, p.2)
def gate (v : SV) (want : Bool) : Option Bool :=
 match v with
 | .bool b => some (boolEq b want)
 | .undef => some false
 | _ => none
def Op.stepS (C : CallC) (o : Op) (T : Tmps) (H : Heap) : Option (Tmps × Heap) :=
 match o.guard with
 | none => o.runS C T H
 | some (g, want) => match gate (getT T g) want with
  | some b => bif b then o.runS C T H else some (o.skipT T, H)
  | none => none
theorem set_bool {T : Tmps} {g : Nat} {b : Bool} (h : getT T g = .bool b) : T.set g (.bool b) = T := by
 rcases getT_cases T g with e | e
 ·rw [h] at e; exact set_getT e
 ·rw [h] at e; cases e
theorem set_undef {T : Tmps} {g : Nat} (h : getT T g = .undef) : T.set g .undef = T := by
 rcases getT_cases T g with e | e
 ·rw [h] at e; exact set_getT e
 ·rw [h] at e; cases e
section
variable {C : CallC} {R : Type}
theorem run_S (o : Op) (T : Tmps) (H : Heap) (k : Tmps -> Heap -> Option R) : o.run (viaC C) T H k = (o.runS C T H).bind fun p => k p.1 p.2 := by
 rw [run_sem]
 unfold Op.runS
 cases semK C o.k (o.args.map (·.ev T)) H <;> rfl
theorem step_S (o : Op) (T : Tmps) (H : Heap) (k : Tmps -> Heap -> Option R) : o.step (viaC C) T H k = (o.stepS C T H).bind fun p => k p.1 p.2 := by
 unfold Op.step Op.stepS
 cases o.guard with
 | none => exact run_S o T H k
 | some g =>
  obtain ⟨g, want⟩ := g
  simp only
  unfold guardK gate
  cases hv : getT T g with
  | undef =>
   have hs := set_undef hv
   simp only [hs]
   rfl
  | bool b =>
   have hs := set_bool hv
   cases b with
   | true => simp only [hs]; cases boolEq true want <;> simp [run_S]
   | false => simp only [hs]; cases boolEq false want <;> simp [run_S]
  | _ => rfl
theorem stepS_ext (hC : ExtC C) {o : Op} {T T' : Tmps} {H H' : Heap} (h : o.stepS C T H = some (T', H')) : HExt H H' := by
 have hrun : ∀ {T' H'}, o.runS C T H = some (T', H') -> HExt H H' := fun h => by
  simp only [Op.runS, Option.map_eq_some_iff, Prod.mk.injEq] at h
  obtain ⟨p, h, _, rfl⟩ := h
  exact semK_ext hC h
 unfold Op.stepS at h
 split at h
 ·exact hrun h
 ·split at h
  ·rename_i b _
   revert h
   cases b with
   | true => intro h; exact hrun h
   | false => intro h; simp only [cond_false, Option.some.injEq, Prod.mk.injEq] at h; obtain ⟨_, rfl⟩ := h; exact HExt.refl _
  ·cases h
variable {Pr : Prop}
theorem runOps_ext (hC : ExtC C) {res : R} {k : Tmps -> Heap -> Option R} {H0 : Heap} (hk : ∀ T H, HExt H0 H -> k T H = some res -> Pr) : ∀ (l : List Op) (T : Tmps) (H : Heap), HExt H0 H -> runOps (viaC C) l T H k = some res -> Pr
 | [], T, H, hH, h => hk T H hH h
 | o :: l, T, H, hH, h => by
  simp only [runOps, step_S, Option.bind_eq_some_iff] at h
  obtain ⟨⟨T', H'⟩, h1, h2⟩ := h
  exact runOps_ext hC hk l T' H' (hH.trans (stepS_ext hC h1)) h2
theorem checkP_done {tr : Trace} {t : Option R} {res : R} : ∀ (ps : List (Nat × Nat)), checkP tr t ps = some res -> t = some res /\ ∀ p ∈ ps, ∃ x a b y H H', tr[p.1]? = some (x, a, b) /\ tr[p.2]? = some (y, H, H') /\ sameRow x H H' = true
 | [], h => ⟨h, fun p hp => by cases hp⟩
 | (i, e) :: ps, h => by
  simp only [checkP] at h
  split at h
  ·rename_i x a b y H H' h1 h2
   revert h
   cases hs : sameRow x H H' with
   | false => intro h; cases h
   | true =>
    intro h
    obtain ⟨h3, h4⟩ := checkP_done ps h
    refine ⟨h3, fun p hp => ?_⟩
    rcases List.mem_cons.1 hp with rfl | hp
    ·exact ⟨x, a, b, y, H, H', h1, h2, hs⟩
    ·exact h4 p hp
  ·cases h
theorem runDraw_ext (hC : ExtC C) {res : R} {k : Tmps -> Heap -> Option R} {H0 : Heap} {pairs : List (Nat × Nat)} (hk : ∀ T H, HExt H0 H -> k T H = some res -> Pr) : ∀ (l : List Op) (tr : Trace) (T : Tmps) (H : Heap), HExt H0 H -> runDraw (viaC C) pairs l tr T H k = some res -> Pr
 | [], tr, T, H, hH, h => hk T H hH (checkP_done _ h).1
 | o :: l, tr, T, H, hH, h => by
  simp only [runDraw, step_S, Option.bind_eq_some_iff] at h
  obtain ⟨⟨T', H'⟩, h1, h2⟩ := h
  exact runDraw_ext hC hk l _ T' H' (hH.trans (stepS_ext hC h1)) h2
theorem exec_ext (hC : ExtC C) (K : Nat) {res : R} {H0 : Heap} : ∀ (cc : CC) (T : Tmps) (H : Heap) (kn : Tmps -> Heap -> Option R) (ke : Nat -> Tmps -> Heap -> Option R) (kr : Tmps -> Heap -> Option R),
  (∀ T H, HExt H0 H -> kn T H = some res -> Pr) -> (∀ i T H, HExt H0 H -> ke i T H = some res -> Pr) -> (∀ T H, HExt H0 H -> kr T H = some res -> Pr) -> HExt H0 H -> exec K (viaC C) cc T H kn ke kr = some res -> Pr
 | .skip, T, H, kn, ke, kr, h1, h2, h3, hH, h => h1 T H hH h
 | .ret, T, H, kn, ke, kr, h1, h2, h3, hH, h => h3 T H hH h
 | .ops l, T, H, kn, ke, kr, h1, h2, h3, hH, h => runOps_ext hC h1 l T H hH h
 | .draw l ps, T, H, kn, ke, kr, h1, h2, h3, hH, h => runDraw_ext hC h1 l [] T H hH h
 | .seq a b, T, H, kn, ke, kr, h1, h2, h3, hH, h => exec_ext hC K a T H _ ke kr (fun T H hH h => exec_ext hC K b T H kn ke kr h1 h2 h3 hH h) h2 h3 hH h
 | .cond c a b, T, H, kn, ke, kr, h1, h2, h3, hH, h => by
  simp only [exec, condK] at h
  split at h
  ·exact exec_ext hC K a T H kn ke kr h1 h2 h3 hH h
  ·exact exec_ext hC K b T H kn ke kr h1 h2 h3 hH h
  ·cases h
 | .block id c, T, H, kn, ke, kr, h1, h2, h3, hH, h => by
  simp only [exec] at h
  refine exec_ext hC K c T H _ _ kr h1 (fun i T H hH h => ?_) h3 hH h
  revert h
  cases Nat.beq i id with
  | true => exact fun h => h1 T H hH h
  | false => exact fun h => h2 i T H hH h
 | .loop live nt c, T, H, kn, ke, kr, h1, h2, h3, hH, h => by
  simp only [exec] at h
  have key : ∀ n vs H, HExt H0 H -> loopN (fun vs H k => exec K (viaC C) c (unproj nt live vs) H (fun T' H' => k (proj T' live) H') ke kr) n vs H = some res -> Pr := by
   intro n
   induction n with
   | zero => intro vs H _ h; simp [loopN] at h
   | succ n ih =>
    intro vs H hH h
    simp only [loopN] at h
    exact exec_ext hC K c _ H _ ke kr (fun T H hH h => ih _ _ hH h) h2 h3 hH h
  exact key K _ H hH h
 | .exit id, T, H, kn, ke, kr, h1, h2, h3, hH, h => h2 id T H hH h
 | .scope c, T, H, kn, ke, kr, h1, h2, h3, hH, h => exec_ext hC K c T H kn ke kr h1 h2 h3 hH h
theorem runFn_ext (hC : ExtC C) (cf : Fn) (K : Nat) {xs : List SV} {H H' : Heap} {r : SV} (h : runFn cf K C xs H = some (r, H')) : HExt H H' := by
 have hret : ∀ T H1, HExt H H1 -> retK cf.res T H1 = some (r, H') -> HExt H H' := fun T H1 hH h => by
  unfold retK at h
  have : ∀ (l : List Res) (k : List SV -> Option (SV × Heap)), resK T l k = some (r, H') -> ∃ ys, k ys = some (r, H') := by
   intro l
   induction l with
   | nil => exact fun k h => ⟨[], h⟩
   | cons x l ih =>
    intro k h
    simp only [resK, Option.bind_eq_some_iff] at h
    obtain ⟨v, _, h⟩ := h
    obtain ⟨ys, h⟩ := ih _ h
    exact ⟨_, h⟩
  obtain ⟨ys, h⟩ := this _ _ h
  simp only [Option.some.injEq, Prod.mk.injEq] at h
  rw [<- h.2]; exact hH
 exact exec_ext hC K cf.body _ H _ _ _ hret (fun i T H _ h => by cases h) hret (HExt.refl H) h
abbrev Ups := List (Nat × SV)
def ups (T : Tmps) : Ups -> Tmps
 | [] => T
 | (n, v) :: l => ups (T.set n v) l
theorem ups_append : ∀ (T : Tmps) (l m : Ups), ups T (l ++ m) = ups (ups T l) m
 | T, [], m => rfl
 | T, (n, v) :: l, m => by simp only [List.cons_append, ups]; exact ups_append _ l m
theorem clear_ups : ∀ (l : List Nat) (T : Tmps), clear T l = ups T (l.map (·, SV.junk))
 | [], T => rfl
 | n :: l, T => by simp only [clear, List.map_cons, ups]; exact clear_ups l _
theorem setD_ups (T : Tmps) (d : Option Nat) (y : SV) : setD T d y = ups T (d.toList.map (·, y)) := by cases d <;> rfl
theorem getT_set_ne {T : Tmps} {n t : Nat} {v : SV} (h : n ≠ t) : getT (T.set n v) t = getT T t := by
 unfold getT
 simp [List.getD, List.getElem?_set_ne h]
theorem getT_ups : ∀ (l : Ups) (T : Tmps) (t : Nat), (∀ q ∈ l, q.1 ≠ t) -> getT (ups T l) t = getT T t
 | [], T, t, h => rfl
 | (n, v) :: l, T, t, h => by
  simp only [ups]
  rw [getT_ups l _ t fun q hq => h q (List.mem_cons_of_mem _ hq)]
  exact getT_set_ne (h _ List.mem_cons_self)
theorem ups_set : ∀ (l : Ups) (T : Tmps) (n : Nat) (v : SV), (∀ q ∈ l, q.1 ≠ n) -> ups (T.set n v) l = (ups T l).set n v
 | [], T, n, v, h => rfl
 | (m, u) :: l, T, n, v, h => by
  simp only [ups]
  rw [List.set_comm _ _ (Ne.symm (h _ List.mem_cons_self)), ups_set l _ n v fun q hq => h q (List.mem_cons_of_mem _ hq)]
theorem ups_comm : ∀ (l m : Ups) (T : Tmps), (∀ q ∈ l, ∀ p ∈ m, q.1 ≠ p.1) -> ups (ups T l) m = ups (ups T m) l
 | [], m, T, h => rfl
 | (n, v) :: l, m, T, h => by
  simp only [ups]
  rw [ups_comm l m _ fun q hq p hp => h q (List.mem_cons_of_mem _ hq) p hp, ups_set m T n v fun p hp => Ne.symm (h _ List.mem_cons_self p hp)]
def hd : List SV -> SV
 | x :: _ => x
 | [] => .undef
theorem first_hd (o : Op) (T : Tmps) : o.first T = hd (o.args.map (·.ev T)) := by
 unfold Op.first
 cases o.args <;> rfl
theorem sliceOp_congr {H H2 : Heap} {s : Sl} (h : ∀ p, s.base = some p -> H2.get p.1 = H.get p.1) (sz : Nat) (lo hi mx : Option SV) : sliceOp H2 sz s lo hi mx = sliceOp H sz s lo hi mx := by
 have h1 : capOf H2 sz s = capOf H sz s := by
  unfold capOf
  cases s.cap with
  | some c => rfl
  | none => cases hb : s.base with
   | none => rfl
   | some p => simp [h p hb]
 have h2 : ∀ m, fitsCap H2 sz s m = fitsCap H sz s m := fun m => by simp [fitsCap, h1]
 have h3 : ∀ m, eszOk H2 sz s m = eszOk H sz s m := fun m => by
  unfold eszOk
  cases hb : s.base with
  | none => rfl
  | some p => simp [h p hb]
 unfold sliceOp
 simp only [h2, h3]
theorem opR_congr {H H2 : Heap} {rk : RK} {xs : List SV} (h : ∀ r, rowOf (hd xs) = some r -> H2.get r = H.get r) : opR rk xs H2 = opR rk xs H := by
 have hp : ∀ p, hd xs = .ptr p -> ∀ o n, H2.read p.1 o n = H.read p.1 o n := fun p e o n => by
  rw [e] at h
  simp [Heap.read, h p.1 rfl]
 have hs : ∀ s, hd xs = .slice s -> ∀ p, s.base = some p -> H2.get p.1 = H.get p.1 := fun s e p hb => by
  rw [e] at h
  exact h p.1 (by simp [rowOf, hb])
 unfold opR
 split
 ·rw [hp _ rfl]
 ·rw [sliceOp_congr (hs _ rfl)]
 ·rw [sliceOp_congr (hs _ rfl)]
 ·rw [sliceOp_congr (hs _ rfl)]
 ·rw [sliceOp_congr (hs _ rfl)]
 ·rw [sliceOp_congr (hs _ rfl)]
 ·rw [sliceOp_congr (hs _ rfl)]
 ·rename_i s
  have : H2.elems 1 s = H.elems 1 s := by
   unfold Heap.elems
   cases hb : s.base with
   | none => rfl
   | some p => cases Nat.beq s.len 0 <;> simp [Heap.read, hs s rfl p hb]
  rw [this]
 ·rfl
def Alike (o : Op) (x : SV) (H H2 : Heap) : Prop := (o.isE = true -> H2 = H) /\ (o.isR = true -> ∀ r, rowOf x = some r -> H2.get r = H.get r)
theorem Alike.refl (o : Op) (x : SV) (H : Heap) : Alike o x H H := ⟨fun _ => rfl, fun _ _ _ => rfl⟩
theorem semK_congr {o : Op} {xs : List SV} {H H' H2 : Heap} {y : SV} (h : semK C o.k xs H = some (y, H')) (ha : Alike o (hd xs) H H2) : semK C o.k xs H2 = some (y, bif o.isE then H' else H2) /\ (o.isE = false -> H' = H) := by
 obtain ⟨a1, a2⟩ := ha
 unfold Op.isE Op.isR at *
 cases hk : o.k with
 | p pk =>
  rw [hk] at h
  simp only [semK, Option.map_eq_some_iff, Prod.mk.injEq] at h ⊢
  obtain ⟨y', h1, rfl, rfl⟩ := h
  exact ⟨⟨_, h1, rfl, rfl⟩, fun _ => rfl⟩
 | b bk =>
  rw [hk] at h
  simp only [semK, Option.map_eq_some_iff, Prod.mk.injEq] at h ⊢
  obtain ⟨y', h1, rfl, rfl⟩ := h
  exact ⟨⟨_, h1, rfl, rfl⟩, fun _ => rfl⟩
 | r rk =>
  rw [hk] at h a2
  simp only [semK, Option.map_eq_some_iff, Prod.mk.injEq] at h ⊢
  obtain ⟨y', h1, rfl, rfl⟩ := h
  exact ⟨⟨_, by rw [opR_congr (a2 rfl)]; exact h1, rfl, rfl⟩, fun _ => rfl⟩
 | e ek => rw [hk] at h a1; rw [a1 rfl]; exact ⟨h, fun e => by cases e⟩
 | call f => rw [hk] at h a1; rw [a1 rfl]; exact ⟨h, fun e => by cases e⟩
 | callv => rw [hk] at h a1; rw [a1 rfl]; exact ⟨h, fun e => by cases e⟩
theorem mem_meets {a b : List Nat} (h : meets a b = false) : ∀ t ∈ a, t ∉ b := fun t ha hb => by
 have : meets a b = true := by
  unfold meets
  rw [List.any_eq_true]
  refine ⟨t, ha, ?_⟩
  unfold memN
  rw [List.any_eq_true]
  exact ⟨t, hb, by simp⟩
 rw [this] at h; cases h
theorem ev_congr {o : Op} {T T2 : Tmps} (h : ∀ t ∈ o.reads, getT T2 t = getT T t) : o.args.map (·.ev T2) = o.args.map (·.ev T) := by
 apply List.map_congr_left
 intro x hx
 cases x with
 | c v => rfl
 | t n =>
  refine h n ?_
  unfold Op.reads
  exact List.mem_append_right _ (List.mem_flatMap.2 ⟨.t n, hx, by simp [Opd.slots]⟩)
theorem stepS_turns {o : Op} {T T' : Tmps} {H H' : Heap} (h : o.stepS C T H = some (T', H')) :
  ∃ u : Ups, (∀ q ∈ u, q.1 ∈ o.writes) /\ T' = ups T u /\ (o.isE = false -> H' = H) /\ 
   ∀ T2 H2, (∀ t ∈ o.reads, getT T2 t = getT T t) -> Alike o (o.first T) H H2 -> o.stepS C T2 H2 = some (ups T2 u, bif o.isE then H' else H2) /\ o.first T2 = o.first T := by
 have hrun : o.runS C T H = some (T', H') -> ∃ u : Ups, (∀ q ∈ u, q.1 ∈ o.writes) /\ T' = ups T u /\ (o.isE = false -> H' = H) /\ 
   ∀ T2 H2, (∀ t ∈ o.reads, getT T2 t = getT T t) -> Alike o (o.first T) H H2 -> o.runS C T2 H2 = some (ups T2 u, bif o.isE then H' else H2) /\ o.first T2 = o.first T := fun h0 => by
  simp only [Op.runS, Option.map_eq_some_iff, Prod.mk.injEq] at h0
  obtain ⟨⟨y, H1⟩, h0, rfl, rfl⟩ := h0
  refine ⟨o.clr.map (·, SV.junk) ++ o.dst.toList.map (·, y), fun q hq => ?_, by rw [ups_append, <- clear_ups, <- setD_ups], (semK_congr h0 (Alike.refl _ _ _)).2, fun T2 H2 hT ha => ?_⟩
  ·unfold Op.writes
   rcases List.mem_append.1 hq with hq | hq
   ·obtain ⟨t, ht, rfl⟩ := List.mem_map.1 hq
    exact List.mem_append_right _ ht
   ·obtain ⟨t, ht, rfl⟩ := List.mem_map.1 hq
    refine List.mem_append_left _ ?_
    cases hd' : o.dst with
    | none => rw [hd'] at ht; cases ht
    | some d => rw [hd'] at ht; simpa using ht
  ·have he := ev_congr hT
   rw [first_hd] at ha
   refine ⟨?_, by rw [first_hd, first_hd, he]⟩
   simp only [Op.runS, he, (semK_congr h0 ha).1, Option.map_some]
   rw [ups_append, <- clear_ups, <- setD_ups]
 unfold Op.stepS at h ⊢
 cases hg : o.guard with
 | none =>
  rw [hg] at h
  simp only at h ⊢
  exact hrun h
 | some gw =>
  obtain ⟨g, want⟩ := gw
  rw [hg] at h
  simp only at h ⊢
  have hgr : g ∈ o.reads := by unfold Op.reads; rw [hg]; exact List.mem_append_left _ (by simp)
  split at h
  ·rename_i b hv
   revert h
   cases b with
   | true =>
    intro h
    obtain ⟨u, h1, h2, h3, h4⟩ := hrun h
    refine ⟨u, h1, h2, h3, fun T2 H2 hT ha => ?_⟩
    rw [hT g hgr, hv]
    simp only [cond_true]
    exact h4 T2 H2 hT ha
   | false =>
    intro h
    simp only [cond_false, Option.some.injEq, Prod.mk.injEq] at h
    obtain ⟨rfl, rfl⟩ := h
    cases hs : isSt o.k with
    | true =>
     refine ⟨[], fun q hq => (by cases hq), by simp [Op.skipT, hs, ups], fun _ => rfl, fun T2 H2 hT ha => ?_⟩
     rw [hT g hgr, hv]
     refine ⟨?_, by rw [first_hd, first_hd, ev_congr hT]⟩
     simp only [cond_false, Op.skipT, hs, cond_true, ups]
     cases he : o.isE with
     | true => rw [ha.1 he]; rfl
     | false => rfl
    | false =>
     refine ⟨o.dst.toList.map (·, SV.undef), fun q hq => ?_, by simp [Op.skipT, hs, setD_ups], fun _ => rfl, fun T2 H2 hT ha => ?_⟩
     ·obtain ⟨t, ht, rfl⟩ := List.mem_map.1 hq
      unfold Op.writes
      refine List.mem_append_left _ ?_
      cases hd' : o.dst with
      | none => rw [hd'] at ht; cases ht
      | some d => rw [hd'] at ht; simpa using ht
     ·rw [hT g hgr, hv]
      refine ⟨?_, by rw [first_hd, first_hd, ev_congr hT]⟩
      simp only [cond_false, Op.skipT, hs, setD_ups]
      cases he : o.isE with
      | true => rw [ha.1 he]; rfl
      | false => rfl
  ·cases h
end
end Go.Sh

/- Regions whose order is open. -/
import Derived.Test.YtpdkfleleebdaaaGreatDoorSh17
import Derived.Orders
set_option linter.unusedVariables false
set_option linter.unusedSimpArgs false
namespace Go.Sh
open Go
def direct (o : Oper) (j : Nat) : Prop := ∃ e, e ∈ o.after.toList /\ Region.binds .any e = true /\ e.on = j
theorem precs_go : ∀ (l : List Oper) (acc : List (List Nat)), let r := l.foldl (init := acc) fun (acc : List (List Nat)) o => acc ++ [o.after.toList.flatMap fun e => bif Region.binds .any e then e.on :: (acc.getD e.on []) else []]
  (∀ k, k < acc.length -> r[k]? = acc[k]?) /\ r.length = acc.length + l.length /\ ∀ m o, l[m]? = some o -> ∀ j ∈ r.getD (acc.length + m) [], ∃ i, direct o i /\ (j = i \/ (i < acc.length + m /\ j ∈ r.getD i []))
 | [], acc => by
  intro r
  exact ⟨fun _ _ => rfl, by simp [r], fun m o h => by simp at h⟩
 | o :: l, acc => by
  intro r
  obtain ⟨h1, h2, h3⟩ := precs_go l (acc ++ [o.after.toList.flatMap fun e => bif Region.binds .any e then e.on :: (acc.getD e.on []) else []])
  change (∀ k, k < _ -> r[k]? = _) at h1
  change r.length = _ at h2
  refine ⟨fun k hk => ?_, ?_, fun m o' hm j hj => ?_⟩
  ·rw [h1 k (by simp; omega), List.getElem?_append_left hk]
  ·rw [h2]; simp; omega
  ·cases m with
   | zero =>
    simp only [List.getElem?_cons_zero, Option.some.injEq] at hm
    subst hm
    have e := h1 acc.length (by simp)
    rw [List.getElem?_append_right (Nat.le_refl _)] at e
    simp only [Nat.sub_self, List.getElem?_cons_zero] at e
    rw [Nat.add_zero, List.getD_eq_getElem?_getD, e, Option.getD_some] at hj
    obtain ⟨ed, hed, hj⟩ := List.mem_flatMap.1 hj
    cases hb : Region.binds .any ed with
    | false => rw [hb] at hj; cases hj
    | true =>
     rw [hb] at hj
     simp only [cond_true] at hj
     refine ⟨ed.on, ⟨ed, hed, hb, rfl⟩, ?_⟩
     rcases List.mem_cons.1 hj with rfl | hj
     ·exact .inl rfl
     ·right
      have hlt : ed.on < acc.length := by
       by_cases hlt : ed.on < acc.length
       ·exact hlt
       ·rw [List.getD_eq_getElem?_getD, List.getElem?_eq_none (by omega)] at hj; cases hj
      refine ⟨by omega, ?_⟩
      rw [List.getD_eq_getElem?_getD, h1 _ (by simp; omega), List.getElem?_append_left hlt, <- List.getD_eq_getElem?_getD]
      exact hj
   | succ m =>
    simp only [List.getElem?_cons_succ] at hm
    have hl : ∀ x : List Nat, (acc ++ [x]).length + m = acc.length + (m + 1) := fun x => by simp; omega
    have h4 := h3 m o' hm j
    rw [hl] at h4
    exact h4 hj
theorem precs_mem {ops : List Oper} {i j : Nat} (hj : j ∈ (precs ops).getD i []) : ∃ o k, ops[i]? = some o /\ direct o k /\ (j = k \/ (k < i /\ j ∈ (precs ops).getD k [])) := by
 obtain ⟨_, h2, h3⟩ := precs_go ops []
 simp only [List.length_nil, Nat.zero_add] at h2 h3
 cases ho : ops[i]? with
 | none =>
  have : ops.length <= i := List.getElem?_eq_none_iff.1 ho
  rw [List.getD_eq_getElem?_getD, List.getElem?_eq_none (by unfold precs; rw [h2]; exact this)] at hj
  cases hj
 | some o =>
  obtain ⟨k, h4, h5⟩ := h3 i o ho j hj
  exact ⟨o, k, rfl, h4, h5⟩
theorem precs_listed {ops : List Oper} {S : Nat -> Prop} (hS : ∀ i o, S i -> ops[i]? = some o -> ∀ k, direct o k -> S k) : ∀ (n i : Nat), i < n -> (∀ o, ops[i]? = some o -> ∀ k, direct o k -> S k) -> ∀ j ∈ (precs ops).getD i [], S j
 | 0, i, hi, _, _, _ => by omega
 | n + 1, i, hi, hd, j, hj => by
  obtain ⟨o, k, h1, h2, h3⟩ := precs_mem hj
  have hk := hd o h1 k h2
  rcases h3 with rfl | ⟨h3, h4⟩
  ·exact hk
  ·exact precs_listed hS n k (by omega) (fun o ho k' hk' => hS k o hk ho k' hk') j h4
section
variable {C : CallC} {R : Type}
def Runs (C : CallC) (fin : Tmps -> Heap -> Prop) (tx : Nat -> SV) (tH tH' : Nat -> Heap) : List (Op × Nat) -> Tmps -> Heap -> Prop
 | [], T, H => fin T H
 | (o, j) :: l, T, H => ∃ T' H', o.stepS C T H = some (T', H') /\ tx j = o.first T /\ (o.isE = true -> tH j = H /\ tH' j = H') /\ Runs C fin tx tH tH' l T' H'
def Unharmed (tx : Nat -> SV) (tH tH' : Nat -> Heap) (o : Op) (j : Nat) (p : Op) (i : Nat) : Prop :=
 pairOk o p = true /\ (o.isR = true -> p.isE = true -> sameRow (tx j) (tH i) (tH' i) = true) /\ (o.isE = true -> p.isR = true -> sameRow (tx i) (tH j) (tH' j) = true)
theorem sameRow_get {x : SV} {H H' : Heap} (he : HExt H H') (hs : sameRow x H H' = true) : ∀ r, rowOf x = some r -> H'.get r = H.get r := fun r hr => by
 unfold sameRow at hs
 rw [hr] at hs
 simp only [Heap.ver] at hs
 cases h1 : H.get r with
 | none =>
  cases h2 : H'.get r with
  | none => rfl
  | some b => rw [h1, h2] at hs; cases hs
 | some a =>
  cases h2 : H'.get r with
  | none => rw [h1, h2] at hs; cases hs
  | some b =>
   rw [h1, h2] at hs
   simp only [Option.map_some, verEq] at hs
   have hx := he.rows r (Heap.get_lt h1)
   rw [h1, h2] at hx
   exact congrArg some (hx.2.1 (Nat.eq_of_beq_eq_true hs).symm)
theorem Runs.swap (hC : ExtC C) {fin : Tmps -> Heap -> Prop} {tx : Nat -> SV} {tH tH' : Nat -> Heap} {o p : Op} {j i : Nat} {l : List (Op × Nat)} {T : Tmps} {H : Heap} (hr : Runs C fin tx tH tH' ((o, j) :: (p, i) :: l) T H) (hu : Unharmed tx tH tH' o j p i) :
  Runs C fin tx tH tH' ((p, i) :: (o, j) :: l) T H := by
 obtain ⟨T1, H1, s1, x1, e1, T2, H2, s2, x2, e2, hl⟩ := hr
 obtain ⟨hp, c1, c2⟩ := hu
 simp only [pairOk, Bool.and_eq_true, Bool.not_eq_true'] at hp
 obtain ⟨⟨⟨m1, m2⟩, m3⟩, m4⟩ := hp
 obtain ⟨u, u1, rfl, u3, u4⟩ := stepS_turns s1
 obtain ⟨v, v1, rfl, v3, v4⟩ := stepS_turns s2
 have uv : ∀ q ∈ u, ∀ r ∈ v, q.1 ≠ r.1 := fun q hq r hr e => mem_meets m2 _ (u1 q hq) (by rw [e]; exact v1 r hr)
 have hpr : ∀ t ∈ p.reads, getT T t = getT (ups T u) t := fun t ht => (getT_ups u T t fun q hq e => mem_meets m1 _ (u1 q hq) (by rw [e]; exact ht)).symm
 have hor : ∀ t ∈ o.reads, getT (ups T v) t = getT T t := fun t ht => getT_ups v T t fun q hq e => mem_meets m3 _ ht (by rw [<- e]; exact v1 q hq)
 have hcomm : ups (ups T v) u = ups (ups T u) v := ups_comm v u T fun q hq r hr e => uv r hr q hq e.symm
 cases ho : o.isE with
 | false =>
  have := u3 ho
  subst this
  obtain ⟨k1, k2⟩ := v4 T H1 hpr (Alike.refl _ _ _)
  have hH : (bif p.isE then H2 else H1) = H2 := by
   cases hpe : p.isE with
   | true => rfl
   | false => exact (v3 hpe).symm
  rw [hH] at k1
  have hal : Alike o (o.first T) H1 H2 := by
   refine ⟨fun h => (by rw [ho] at h; cases h), fun hR => ?_⟩
   cases hpe : p.isE with
   | false => rw [v3 hpe]; exact fun _ _ => rfl
   | true =>
    obtain ⟨b1, b2⟩ := e2 hpe
    have := c1 hR hpe
    rw [b1, b2, x1] at this
    exact sameRow_get (stepS_ext hC s2) this
  obtain ⟨q1, q2⟩ := u4 (ups T v) H2 hor hal
  rw [ho] at q1
  simp only [cond_false] at q1
  refine ⟨_, _, k1, by rw [k2]; exact x2, e2, _, _, q1, by rw [q2]; exact x1, fun h => (by rw [ho] at h; cases h), ?_⟩
  rw [hcomm]; exact hl
 | true =>
  have hpe : p.isE = false := by rw [ho] at m4; simpa using m4
  have := v3 hpe
  subst this
  have hal : Alike p (p.first (ups T u)) H2 H := by
   refine ⟨fun h => (by rw [hpe] at h; cases h), fun hR r hr => ?_⟩
   obtain ⟨b1, b2⟩ := e1 ho
   have := c2 ho hR
   rw [b1, b2, x2] at this
   exact (sameRow_get (stepS_ext hC s1) this r hr).symm
  obtain ⟨k1, k2⟩ := v4 T H hpr hal
  rw [hpe] at k1
  simp only [cond_false] at k1
  obtain ⟨q1, q2⟩ := u4 (ups T v) H hor (Alike.refl _ _ _)
  rw [ho] at q1
  simp only [cond_true] at q1
  refine ⟨_, _, k1, by rw [k2]; exact x2, fun h => (by rw [hpe] at h; cases h), _, _, q1, by rw [q2]; exact x1, e1, ?_⟩
  rw [hcomm]; exact hl
theorem Runs.bubble (hC : ExtC C) {fin : Tmps -> Heap -> Prop} {tx : Nat -> SV} {tH tH' : Nat -> Heap} {p : Op} {i : Nat} {l2 : List (Op × Nat)} : ∀ (l1 : List (Op × Nat)) {T : Tmps} {H : Heap}, Runs C fin tx tH tH' (l1 ++ (p, i) :: l2) T H ->
  (∀ q ∈ l1, Unharmed tx tH tH' q.1 q.2 p i) -> Runs C fin tx tH tH' ((p, i) :: (l1 ++ l2)) T H
 | [], T, H, hr, _ => hr
 | (o, j) :: l1, T, H, hr, hu => by
  obtain ⟨T', H', s1, x1, e1, hl⟩ := hr
  have := Runs.bubble hC l1 hl fun q hq => hu q (List.mem_cons_of_mem _ hq)
  exact Runs.swap hC (o := o) (j := j) ⟨T', H', s1, x1, e1, this⟩ (hu (o, j) List.mem_cons_self)
def noTrace : SV × Heap × Heap := (.undef, ⟨0, .nil⟩, ⟨0, .nil⟩)
theorem runDraw_runs {k : Tmps -> Heap -> Option R} {res : R} {pairs : List (Nat × Nat)} : ∀ (l : List Op) (tr : Trace) (T : Tmps) (H : Heap), runDraw (viaC C) pairs l tr T H k = some res ->
  ∃ ft : Trace, (∀ m, m < tr.length -> ft[m]? = tr.reverse[m]?) /\ (∀ p ∈ pairs, ∃ x a b y H H', ft[p.1]? = some (x, a, b) /\ ft[p.2]? = some (y, H, H') /\ sameRow x H H' = true) /\ 
   Runs C (fun T H => k T H = some res) (fun j => (ft.getD j noTrace).1) (fun j => (ft.getD j noTrace).2.1) (fun j => (ft.getD j noTrace).2.2) (l.zipIdx tr.length) T H
 | [], tr, T, H, h => by
  obtain ⟨h1, h2⟩ := checkP_done _ h
  exact ⟨tr.reverse, fun _ _ => rfl, h2, h1⟩
 | o :: l, tr, T, H, h => by
  simp only [runDraw, step_S, Option.bind_eq_some_iff] at h
  obtain ⟨⟨T', H'⟩, h1, h2⟩ := h
  obtain ⟨ft, f1, f2, f3⟩ := runDraw_runs l _ T' H' h2
  have hat : ft[tr.length]? = some (o.first T, H, H') := by
   rw [f1 tr.length (by simp)]
   simp
  refine ⟨ft, fun m hm => ?_, f2, ?_⟩
  ·rw [f1 m (by simp; omega)]
   simp only [List.reverse_cons]
   rw [List.getElem?_append_left (by simpa using hm)]
  ·simp only [List.zipIdx_cons, Runs]
   refine ⟨T', H', h1, by simp [List.getD, hat], fun _ => (by simp [List.getD, hat]), ?_⟩
   exact f3
end
section
variable {P : Program} {h : Hints} {cx : Ctx} {C : CallC} {R : Type}
theorem zip_mem {cl : List Op} {q : Op × Nat} : q ∈ cl.zipIdx ↔ cl[q.2]? = some q.1 := by
 rw [List.mem_zipIdx_iff_getElem?]
theorem zip_ord : ∀ (cl : List Op) (n : Nat), (cl.zipIdx n).Pairwise fun x y => x.2 < y.2
 | [], n => List.Pairwise.nil
 | o :: cl, n => by
  rw [List.zipIdx_cons]
  refine List.Pairwise.cons (fun q hq => ?_) (zip_ord cl (n + 1))
  have := List.le_snd_of_mem_zipIdx hq
  show n < q.2
  omega
def rest (cl : List Op) (listed : Array Bool) : List (Op × Nat) := cl.zipIdx.filter fun q => !listed.getD q.2 true
theorem rest_mem {cl : List Op} {listed : Array Bool} {q : Op × Nat} : q ∈ rest cl listed ↔ cl[q.2]? = some q.1 /\ listed.getD q.2 true = false := by
 unfold rest
 rw [List.mem_filter, zip_mem]
 simp
theorem rest_ord (cl : List Op) (listed : Array Bool) : (rest cl listed).Pairwise fun x y => x.2 < y.2 := (zip_ord cl 0).filter _
theorem mem_ready {ops : Array Oper} {listed : Array Bool} {i : Nat} : i ∈ Region.ready .any ops listed ↔ ∃ o, ops[i]? = some o /\ listed.getD i true = false /\ ∀ k, direct o k -> listed.getD k false = true := by
 unfold Region.ready
 rw [List.mem_filter, List.mem_range]
 constructor
 ·rintro ⟨h1, h2⟩
  simp only [Bool.and_eq_true, Bool.not_eq_true'] at h2
  obtain ⟨h2, h3⟩ := h2
  cases ho : ops[i]? with
  | none => rw [ho] at h3; cases h3
  | some o =>
   rw [ho] at h3
   refine ⟨o, rfl, h2, fun k ⟨e, he, hb, hk⟩ => ?_⟩
   simp only [Option.map_some, Option.getD_some] at h3
   rw [Array.all_eq_true'] at h3
   have := h3 e (by simpa using he)
   rw [hb] at this
   simpa [hk] using this
 ·rintro ⟨o, ho, h2, h3⟩
  refine ⟨(Array.getElem?_eq_some_iff.1 ho).1, ?_⟩
  simp only [ho, h2, Option.map_some, Option.getD_some, Bool.not_false, Bool.true_and]
  rw [Array.all_eq_true']
  intro e he
  cases hb : Region.binds .any e with
  | false => simp
  | true => simpa using h3 e.on ⟨e, by simpa using he, hb, rfl⟩
theorem compOps_get {ops : Array Oper} : ∀ {l : List Oper} {cl : List Op}, compOps P h ops l = some cl -> cl.length = l.length /\ ∀ (i : Nat) (o : Oper), l[i]? = some o -> ∃ co, cl[i]? = some co /\ compOp P h ops o = some co
 | [], cl, hc => by simp only [compOps, Option.some.injEq] at hc; subst hc; exact ⟨rfl, fun i o hi => by simp at hi⟩
 | x :: l, cl, hc => by
  simp only [compOps, Option.bind_eq_some_iff, Option.map_eq_some_iff] at hc
  obtain ⟨co, hco, cl', hcl, rfl⟩ := hc
  obtain ⟨h1, h2⟩ := compOps_get hcl
  refine ⟨by simp [h1], fun i o hi => ?_⟩
  cases i with
  | zero => simp only [List.getElem?_cons_zero, Option.some.injEq] at hi; subst hi; exact ⟨co, rfl, hco⟩
  | succ i => simp only [List.getElem?_cons_succ] at hi ⊢; exact h2 i o hi
theorem edges_lt {ops : List Oper} (he : edgesOk ops = true) {i : Nat} {o : Oper} (ho : ops[i]? = some o) {k : Nat} (hk : direct o k) : k < i := by
 obtain ⟨e, h1, h2, rfl⟩ := hk
 unfold edgesOk at he
 rw [List.all_eq_true] at he
 have := he (o, i) (by rw [List.mem_zipIdx_iff_getElem?]; exact ho)
 simp only [List.all_eq_true] at this
 have := this e h1
 rw [h2] at this
 simpa using this
theorem memN_not {l : List Nat} {n : Nat} (h : n ∉ l) : memN l n = false := by
 cases hm : memN l n with
 | false => rfl
 | true =>
  unfold memN at hm
  rw [List.any_eq_true] at hm
  obtain ⟨x, hx, e⟩ := hm
  exact absurd (Nat.eq_of_beq_eq_true e ▸ hx) h
theorem pairs_mem {cl : List Op} {pr : List (List Nat)} {i j : Nat} {a b : Op} (ha : cl[i]? = some a) (hb : cl[j]? = some b) (hij : i < j) (hn : i ∉ pr.getD j []) : (i, j, a, b) ∈ pairsOf cl pr := by
 unfold pairsOf
 rw [List.mem_flatMap]
 refine ⟨(b, j), zip_mem.2 hb, ?_⟩
 simp only [List.mem_map, List.mem_filter]
 refine ⟨(a, i), ⟨zip_mem.2 ha, ?_⟩, rfl⟩
 simp only [memN_not hn, Bool.not_false, Bool.and_true, Nat.blt_eq]
 exact hij
theorem getD_set (l : Array Bool) (i j : Nat) (d : Bool) (hi : i < l.size) : (l.setIfInBounds i true).getD j d = if i = j then true else l.getD j d := by
 simp only [Array.getD_eq_getD_getElem?, Array.getElem?_setIfInBounds]
 split
 ·rename_i e; subst e; simp [hi]
 ·rfl
theorem After.drawn {T : Tmps} {H : Heap} {a : Act} {w : World} (hr : After P h cx T H a w) : After P h cx T H a { w with drawn := w.drawn + 1 } := by
 obtain ⟨ρ, lam, hr⟩ := hr
 exact ⟨ρ, lam, hr.heap.world ⟨rfl, rfl, rfl⟩ (Nat.le_refl _) (fun _ _ => rfl) (fun _ _ _ _ => rfl), hr.tmps.heap (fun _ _ => rfl) (Nat.le_refl _) (fun _ _ _ => rfl) (fun t cs ht r row hg hk => hr.tmps.boxrow t cs ht r row hg hk)⟩
theorem wpAny_of (hC : CallOK P C) (hE : ExtC C) {ops : Array Oper} {cl : List Op} (hcl : compOps P h ops ops.toList = some cl) (hed : edgesOk ops.toList = true) {tx : Nat -> SV} {tH tH' : Nat -> Heap} {k : Tmps -> Heap -> Option R} {res : R} {Q : Exit -> Act -> World -> Prop}
  (hQ : ∀ a w, Kn P h cx k res a w -> Q .normal a w) (hun : ∀ i j o p, cl[i]? = some o -> cl[j]? = some p -> i < j -> i ∉ (precs ops.toList).getD j [] -> Unharmed tx tH tH' o i p j) :
  ∀ (fuel : Nat) (listed : Array Bool) (a : Act) (w : World) (T : Tmps) (H : Heap), listed.size = ops.size -> (∀ i o, listed.getD i false = true -> ops[i]? = some o -> ∀ k, direct o k -> listed.getD k false = true) ->
   (rest cl listed).length <= fuel -> Runs C (fun T H => k T H = some res) tx tH tH' (rest cl listed) T H -> After P h cx T H a w -> T.length = h.nt -> wpAny P .any ops Q fuel listed a w := by
 obtain ⟨hlen, hget⟩ := compOps_get hcl
 have hget' : ∀ i o, ops[i]? = some o -> ∃ co, cl[i]? = some co /\ compOp P h ops o = some co := fun i o ho => hget i o (by simpa using ho)
 have hgd : ∀ (listed : Array Bool), listed.size = ops.size -> ∀ i, i < ops.size -> ∀ d d', listed.getD i d = listed.getD i d' := fun listed hs i hi d d' => by
  simp [Array.getD_eq_getD_getElem?, hs, hi]
 have hinrest : ∀ (listed : Array Bool), ∀ i ∈ Region.ready .any ops listed, ∃ co, (co, i) ∈ rest cl listed := fun listed i hi => by
  obtain ⟨o, ho, h1, h2⟩ := mem_ready.1 hi
  obtain ⟨co, hco, _⟩ := hget' i o ho
  exact ⟨co, rest_mem.2 ⟨hco, h1⟩⟩
 have hnil : ∀ (listed : Array Bool), listed.size = ops.size -> Region.ready .any ops listed = [] -> rest cl listed = [] := fun listed hs hr => by
  cases hre : rest cl listed with
  | nil => rfl
  | cons q l =>
   obtain ⟨o, j⟩ := q
   have hq : (o, j) ∈ rest cl listed := by rw [hre]; exact List.mem_cons_self
   obtain ⟨h1, h2⟩ := rest_mem.1 hq
   have hj : j < ops.size := by
    have := (List.getElem?_eq_some_iff.1 h1).1
    rw [hlen] at this
    simpa using this
   have hord := rest_ord cl listed
   rw [hre] at hord
   have : j ∈ Region.ready .any ops listed := by
    refine mem_ready.2 ⟨ops[j], by simp [hj], h2, fun k hk => ?_⟩
    have hlt := edges_lt hed (i := j) (o := ops[j]) (by simp [hj]) hk
    cases hb : listed.getD k false with
    | true => rfl
    | false =>
     have hks : k < ops.size := by omega
     obtain ⟨co, hco, _⟩ := hget' k ops[k] (by simp [hks])
     have hm : (co, k) ∈ rest cl listed := rest_mem.2 ⟨hco, by rw [hgd listed hs k hks true false]; exact hb⟩
     rw [hre] at hm
     rcases List.mem_cons.1 hm with e | hm
     ·simp only [Prod.mk.injEq] at e; omega
     ·have := List.rel_of_pairwise_cons hord hm
      simp only at this
      omega
   rw [hr] at this
   cases this
 intro fuel
 induction fuel with
 | zero =>
  intro listed a w T H hs hcd hlf hru hr hT
  have hre : rest cl listed = [] := List.eq_nil_of_length_eq_zero (by omega)
  refine ⟨?_, ?_⟩
  ·cases hrd : Region.ready .any ops listed with
   | nil => rfl
   | cons i l =>
    obtain ⟨co, hco⟩ := hinrest listed i (by rw [hrd]; exact List.mem_cons_self)
    rw [hre] at hco; cases hco
  ·rw [hre] at hru
   exact hQ a w ⟨T, H, hr, hT, hru⟩
 | succ fuel ih =>
  intro listed a w T H hs hcd hlf hru hr hT
  refine ⟨fun hrd => ?_, fun i hi => ?_⟩
  ·rw [hnil listed hs hrd] at hru
   exact hQ a w ⟨T, H, hr, hT, hru⟩
  ·obtain ⟨o, ho, hi1, hi2⟩ := mem_ready.1 hi
   have his : i < ops.size := (Array.getElem?_eq_some_iff.1 ho).1
   obtain ⟨p, hp, hcp⟩ := hget' i o ho
   obtain ⟨l1, l2, hre⟩ := List.append_of_mem (rest_mem.2 ⟨hp, hi1⟩ : (p, i) ∈ rest cl listed)
   have hord := rest_ord cl listed
   rw [hre] at hord hru hlf
   rw [List.pairwise_append] at hord
   obtain ⟨_, ho2, ho3⟩ := hord
   have hl1 : ∀ q ∈ l1, q.2 < i := fun q hq => ho3 q hq (p, i) List.mem_cons_self
   have hl2 : ∀ q ∈ l2, i < q.2 := fun q hq => List.rel_of_pairwise_cons ho2 hq
   have hpre : ∀ j ∈ (precs ops.toList).getD i [], listed.getD j false = true := precs_listed (S := fun j => listed.getD j false = true) (fun j o' hj ho' => hcd j o' hj (by simpa using ho')) (i + 1) i (by omega)
    (fun o' ho' k hk => by
     have : o' = o := by
      have e : ops[i]? = some o' := by simpa using ho'
      rw [ho] at e
      exact (Option.some.inj e).symm
     subst this
     exact hi2 k hk)
   have hbub := Runs.bubble hE l1 hru fun q hq => by
    have hq' : q ∈ rest cl listed := by rw [hre]; exact List.mem_append_left _ hq
    obtain ⟨q1, q2⟩ := rest_mem.1 hq'
    refine hun q.2 i q.1 p q1 hp (hl1 q hq) fun hmem => ?_
    have := hpre _ hmem
    have hqs : q.2 < ops.size := Nat.lt_trans (hl1 q hq) his
    rw [hgd listed hs q.2 hqs false true, q2] at this
    cases this
   obtain ⟨T', H', st, _, _, hrest⟩ := hbub
   have hnew : rest cl (listed.setIfInBounds i true) = l1 ++ l2 := by
    have e1 : rest cl (listed.setIfInBounds i true) = (rest cl listed).filter fun q => !Nat.beq q.2 i := by
     unfold rest
     rw [List.filter_filter]
     apply List.filter_congr
     intro q _
     rw [getD_set listed i q.2 true (by omega)]
     by_cases e : i = q.2
     ·subst e; simp
     ·have : Nat.beq q.2 i = false := by
       cases hb : Nat.beq q.2 i with
       | false => rfl
       | true => exact absurd (Nat.eq_of_beq_eq_true hb).symm e
      simp [e, this]
    have ne : ∀ m, m ≠ i -> (!Nat.beq m i) = true := fun m hm => by
     cases hb : Nat.beq m i with
     | false => rfl
     | true => exact absurd (Nat.eq_of_beq_eq_true hb) hm
    rw [e1, hre, List.filter_append, List.filter_cons]
    have : (!Nat.beq i i) = false := by simp
    simp only [this, Bool.false_eq_true, if_false]
    rw [List.filter_eq_self.2 fun q hq => ne _ (Nat.ne_of_lt (hl1 q hq)), List.filter_eq_self.2 fun q hq => ne _ (Nat.ne_of_gt (hl2 q hq))]
   have hk : (p.step (viaC C) T H fun T H => some (T, H)) = some (T', H') := by rw [step_S, st]; rfl
   have hstep := step_sound (Q := Q) hC hcp hk hr hT (K := wpAny P .any ops Q fuel (listed.setIfInBounds i true)) fun a' w' ⟨T1, H1, hr', hT', e⟩ => by
    simp only [Option.some.injEq, Prod.mk.injEq] at e
    obtain ⟨rfl, rfl⟩ := e
    refine ih (listed.setIfInBounds i true) a' w' T1 H1 (by simp [hs]) (fun j o' hj ho' k hk => ?_) (by rw [hnew]; simp at hlf ⊢; omega) (by rw [hnew]; exact hrest) hr' hT'
    rw [getD_set listed i j false (by omega)] at hj
    rw [getD_set listed i k false (by omega)]
    by_cases e1 : i = k
    ·simp [e1]
    ·simp only [e1, if_false]
     by_cases e2 : i = j
     ·subst e2
      rw [ho] at ho'
      cases ho'
      exact hi2 k hk
     ·simp only [e2, if_false] at hj
      exact hcd j o' hj ho' k hk
   unfold wpOp
   simp only [ho]
   split
   ·rename_i hw; rw [if_pos hw] at hstep; exact .inl hstep
   ·rename_i hw; rw [if_neg hw] at hstep; exact hstep
theorem draw_sound (hC : CallOK P C) (hE : ExtC C) (hm : P.follows .mixedOrders = true) (h : Hints) : DrawSound P h C := by
 intro R cx ops cl T H a w k res Q id hcl hb hrun hr hT hQ
 simp only [Bool.and_eq_true] at hb
 obtain ⟨hed, hdr⟩ := hb
 obtain ⟨ft, _, f2, f3⟩ := runDraw_runs cl [] T H hrun
 refine wp_region_any hm (wpAny_of hC hE hcl hed hQ (tx := fun j => (ft.getD j noTrace).1) (tH := fun j => (ft.getD j noTrace).2.1) (tH' := fun j => (ft.getD j noTrace).2.2) ?_ ops.size _ a _ T H (by simp) ?_ ?_ ?_ hr.drawn hT)
 ·intro i j o p hi hj hij hn
  have hmem := pairs_mem (pr := precs ops.toList) hi hj hij hn
  refine ⟨?_, fun h1 h2 => ?_, fun h1 h2 => ?_⟩
  ·unfold drawOk at hdr
   rw [List.all_eq_true] at hdr
   exact hdr _ hmem
  ·obtain ⟨x, b, c, y, H1, H2, e1, e2, e3⟩ := f2 (i, j) (by
    unfold drawPairs
    rw [List.mem_flatMap]
    exact ⟨_, hmem, List.mem_append_left _ (by simp [h1, h2])⟩)
   simp only [List.getD, e1, e2, Option.getD_some]
   exact e3
  ·obtain ⟨x, b, c, y, H1, H2, e1, e2, e3⟩ := f2 (j, i) (by
    unfold drawPairs
    rw [List.mem_flatMap]
    exact ⟨_, hmem, List.mem_append_right _ (by simp [h1, h2])⟩)
   simp only [List.getD, e1, e2, Option.getD_some]
   exact e3
 ·intro i o hi
  simp [Array.getD_eq_getD_getElem?, Array.getElem?_replicate] at hi
  split at hi <;> simp at hi
 ·unfold rest
  refine Nat.le_trans (List.length_filter_le _ _) ?_
  rw [List.length_zipIdx, (compOps_get hcl).1]
  simp
 ·have : rest cl (Array.replicate ops.size false) = cl.zipIdx := by
   unfold rest
   rw [List.filter_eq_self]
   intro q hq
   have := (List.getElem?_eq_some_iff.1 (zip_mem.1 hq)).1
   rw [(compOps_get hcl).1] at this
   have hlt : q.2 < ops.size := by simpa using this
   simp [Array.getD_eq_getD_getElem?, Array.getElem?_replicate, hlt]
  rw [this]
  exact f3
end
end Go.Sh

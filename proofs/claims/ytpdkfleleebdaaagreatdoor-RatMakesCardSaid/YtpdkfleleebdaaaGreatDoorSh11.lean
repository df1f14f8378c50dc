/- The frame's own boxes. -/
import Derived.Test.YtpdkfleleebdaaaGreatDoorSh10
set_option linter.unusedVariables false
set_option linter.unusedSimpArgs false
namespace Go.Sh
open Go
def Does (P : Program) (h : Hints) (cx : Ctx) (a : Act) (w : World) (o : Oper) (T' : Tmps) (H' : Heap) : Prop :=
 ∃ (v : Value) (w' : World) (ρ' : Place) (lam' : Nat -> Nat), ((execOp a.eval o).run P w = .ok (.value v) w' \/ ((execOp a.eval o).run P w = .ok .skip w' /\ v = Go.undef)) /\ Rel P h cx ρ' lam' T' H' (a.put o.dst v) w'
section
variable {P : Program} {h : Hints} {cx : Ctx} {ρ : Place} {lam : Nat -> Nat} {T : Tmps} {H : Heap} {a : Act} {w : World}
theorem Does.plain {o : Oper} {y : SV} (hr : Rel P h cx ρ lam T H a w) (hrun : RunsTo P ρ H.size a w o y) (clr : List Nat) : Does P h cx a w o (setD (clear T clr) o.dst y) H := by
 obtain ⟨v, h1, h2⟩ := hrun
 exact ⟨v, w, ρ, lam, .inl h1, hr.heap, (TRel.clear clr hr.tmps).put_vr o.dst h2⟩
theorem clear_get : ∀ (l : List Nat) (T : Tmps) (t : Nat) (x : SV), (clear T l)[t]? = some x -> x = SV.junk \/ (t ∉ l /\ T[t]? = some x)
 | [], T, t, x, hx => .inr ⟨by simp, hx⟩
 | n :: l, T, t, x, hx => by
  rcases clear_get l (T.set n .junk) t x hx with e | ⟨h1, h2⟩
  ·exact .inl e
  ·rcases getElem?_set_cases h2 with ⟨e1, e2, _⟩ | ⟨e1, e2⟩
   ·exact .inl e2
   ·exact .inr ⟨by simp [e1, h1], e2⟩
theorem mem_clrOf {h : Hints} {t d : Nat} (hd : h.derOf t = some d) : t ∈ h.clrOf d := by
 have key : ∀ (l : List (Nat × Nat)), assoc l t = some d -> (t, d) ∈ l := by
  intro l
  induction l with
  | nil => intro e; simp [assoc] at e
  | cons p l ih =>
   intro e
   obtain ⟨i, x⟩ := p
   simp only [assoc] at e
   cases hb : Nat.beq i t with
   | true =>
    simp only [hb, cond_true, Option.some.injEq] at e
    have := Nat.eq_of_beq_eq_true hb
    subst this; subst e; simp
   | false =>
    simp only [hb, cond_false] at e
    exact List.mem_cons_of_mem _ (ih e)
 simp only [Hints.clrOf, List.mem_map, List.mem_filter]
 exact ⟨(t, d), ⟨key _ hd, by simp⟩, rfl⟩
theorem clear_len : ∀ (l : List Nat) (T : Tmps), (clear T l).length = T.length
 | [], _ => rfl
 | n :: l, T => by rw [clear, clear_len l]; simp
theorem unfrozen_zero (lo hi : Nat) : unfrozen (0, 0) lo hi := fun j _ _ hj => by simp at hj
theorem new_box {d : Nat} {cs : List SV} (hr : Rel P h cx ρ lam T H a w) (hl : h.isLoc d = true) (hok : okL ρ H.size cs) (hf : cs.all SV.flat = true) (E : TypeId) :
  Rel P h cx ρ (fun t => if t = d then w.heap.size else lam t) (setD (clear T (h.clrOf d)) (some d) (.box cs)) H (a.put (some d) (.pointer (some ⟨w.heap.size, 0, none⟩))) (w.alloc (.cells (cs.map (conc ρ)).toArray E)) := by
 have hold : ∀ b, b < w.heap.size -> (w.alloc (.cells (cs.map (conc ρ)).toArray E)).heap[b]? = w.heap[b]? := fun b hb => heap_alloc_old w _ b hb
 have hheap : HRel cx ρ H (w.alloc (.cells (cs.map (conc ρ)).toArray E)) := hr.heap.world ⟨rfl, rfl, rfl⟩ (by simp) (fun b hb => hold b (Nat.lt_of_lt_of_le hb hr.heap.size))
  (fun r row hg hk => hold _ (hr.heap.rows r row hg hk).lt)
 have ht := TRel.clear (h.clrOf d) hr.tmps
 refine ⟨hheap, ?_⟩
 have hnew : (w.alloc (.cells (cs.map (conc ρ)).toArray E)).heap[w.heap.size]? = some (.cells (cs.map (conc ρ)).toArray E (0, 0)) := heap_alloc_new w _
 have hbox : BoxRel ρ H.size (w.alloc (.cells (cs.map (conc ρ)).toArray E)) w.heap.size cs :=
  ⟨⟨_, E, (0, 0), hnew, by simp, fun j v hv => by simp [hv], unfrozen_zero _ _⟩, fun v hv => ⟨(okL_iff _ _ _).1 hok v hv, List.all_eq_true.1 hf v hv⟩⟩
 have hlamlt : ∀ t cs', T[t]? = some (.box cs') -> lam t < w.heap.size := fun t cs' hb => (hr.tmps.box t cs' hb).lt
 simp only [setD]
 have key : ∀ (t : Nat) (cs' : List SV), ((clear T (h.clrOf d)).set d (SV.box cs))[t]? = some (SV.box cs') -> (t = d /\ cs' = cs) \/ (t ≠ d /\ T[t]? = some (SV.box cs')) := fun t cs' hx => by
  rcases getElem?_set_cases hx with ⟨e1, e2, _⟩ | ⟨e1, e2⟩
  ·cases e2; exact .inl ⟨e1, rfl⟩
  ·rcases clear_get _ _ _ _ e2 with e | ⟨_, e⟩
   ·cases e
   ·exact .inr ⟨e1, e⟩
 refine ⟨by simp [Act.put, clear_len, hr.tmps.len], fun t x hx => ?_, fun t cs' hx => ?_, fun t t' c c' hx hx' hne => ?_, fun t cs' hx r row hg hk => ?_, fun t cs' hx => ?_, fun t cs' hx => ?_, ht.nodefer⟩
 ·rcases getElem?_set_cases hx with ⟨e1, e2, e3⟩ | ⟨e1, e2⟩
  ·subst e1; subst e2
   rw [getD_put_self a t _ (by rw [<- hr.tmps.len, <- clear_len (h.clrOf t) T]; exact e3)]
   simp [SlotRel]
  ·rw [getD_put a d t _ e1]
   rcases clear_get _ _ _ _ e2 with rfl | ⟨hnot, e2⟩
   ·trivial
   ·have := hr.tmps.slot t x e2
    cases x <;> simp only [SlotRel] at this ⊢ <;> first | exact this | skip
    ·simpa [e1] using this
    ·obtain ⟨u, hu, e⟩ := this
     refine ⟨u, hu, ?_⟩
     have : u ≠ d := by
      rintro rfl
      exact hnot (mem_clrOf hu)
     simpa [this] using e
 ·rcases key t cs' hx with ⟨rfl, rfl⟩ | ⟨e1, e2⟩
  ·simpa using hbox
  ·simp only [e1, if_false]
   exact (hr.tmps.box t cs' e2).world (hold _ (hlamlt t cs' e2))
 ·rcases key t c hx with ⟨rfl, rfl⟩ | ⟨e1, e2⟩
  ·rcases key t' c' hx' with ⟨rfl, rfl⟩ | ⟨e1', e2'⟩
   ·exact absurd rfl hne
   ·have := hlamlt t' c' e2'
    simp [Ne.symm hne]; omega
  ·rcases key t' c' hx' with ⟨rfl, rfl⟩ | ⟨e1', e2'⟩
   ·have := hlamlt t c e2
    simp [hne]; omega
   ·simp only [e1, e1', if_false]
    exact hr.tmps.boxsep t t' c c' e2 e2' hne
 ·rcases key t cs' hx with ⟨rfl, rfl⟩ | ⟨e1, e2⟩
  ·have := (hr.heap.rows r row hg hk).lt
   simp; omega
  ·simp only [e1, if_false]
   exact hr.tmps.boxrow t cs' e2 r row hg hk
 ·rcases key t cs' hx with ⟨rfl, rfl⟩ | ⟨e1, e2⟩
  ·exact hl
  ·exact hr.tmps.boxloc t cs' e2
 ·rcases key t cs' hx with ⟨rfl, rfl⟩ | ⟨e1, e2⟩
  ·simpa using hr.heap.size
  ·simp only [e1, if_false]
   exact hr.tmps.boxnew t cs' e2
theorem D_alloc {o : Oper} {t : TypeId} {d : Nat} {z : List SV} (hop : o.op = .alloc t) (hd : o.dst = some d) (hl : h.isLoc d = true) (hz : zeroOf P t = some z) (hr : Rel P h cx ρ lam T H a w) :
  Does P h cx a w o (setD (clear T (h.clrOf d)) (some d) (.box z)) H := by
 simp only [zeroOf, Option.bind_eq_some_iff] at hz
 obtain ⟨z', hz, n, hn, he⟩ := hz
 split at he <;> simp at he
 subst he
 obtain ⟨v, hv, hc, okz, fz, _⟩ := zeroT_ok (P := P) (w := w) (ρ := ρ) H.size hz
 have := new_box hr hl okz fz t
 refine ⟨_, _, _, _, .inl ?_, by rw [hd]; exact this⟩
 simp [execOp, hop, Instr.alloc, hv, newVar, Go.newRow, hc]
theorem VR.item {n : Nat} {x : SV} {v : Value} (hv : VR ρ n x v) (hi : x.item = true) : okL ρ n x.cells /\ x.cells.all SV.flat = true /\ v = conc ρ x /\ v.cells.toList = x.cells.map (conc ρ) := by
 have hj : x ≠ .junk := by rintro rfl; simp [SV.item, SV.flat] at hi
 obtain ⟨o1, rfl⟩ := hv.ne hj
 refine ⟨?_, ?_, rfl, item_cells ρ hi⟩
 ·cases x <;> simp_all [SV.item, SV.flat, SV.cells, okSV, okL]
 ·cases x <;> simp_all [SV.item, SV.flat, SV.cells, okSV, okL]
theorem D_box {o : Oper} {t : TypeId} {x : Operand} {d : Nat} {sx : SV} {cs : List SV} (hop : o.op = .box t x) (hd : o.dst = some d) (hl : h.isLoc d = true) (ex : VR ρ H.size sx (a.eval x)) (hz : opB .box [sx] = some cs) (hr : Rel P h cx ρ lam T H a w) :
  Does P h cx a w o (setD (clear T (h.clrOf d)) (some d) (.box cs)) H := by
 simp only [opB] at hz
 cases hi : sx.item with
 | false => simp [hi] at hz
 | true =>
  simp [hi] at hz; subst hz
  obtain ⟨k1, k2, k3, k4⟩ := ex.item hi
  have := new_box hr hl k1 k2 t
  refine ⟨_, _, _, _, .inl ?_, by rw [hd]; exact this⟩
  have : (a.eval x).cells = (sx.cells.map (conc ρ)).toArray := by rw [<- k4]
  simp [execOp, hop, Instr.box, newVar, Go.newRow, this]
theorem splice_get {cs vs l : List SV} {o : Nat} (hs : splice cs o vs = some l) : l.length = cs.length /\ o + vs.length <= cs.length /\ ∀ (j : Nat) (v : SV), l[j]? = some v ->
  (j < o /\ cs[j]? = some v) \/ (o <= j /\ j < o + vs.length /\ vs[j - o]? = some v) \/ (o + vs.length <= j /\ cs[j]? = some v) := by
 obtain ⟨h1, rfl⟩ := splice_ok hs
 refine ⟨by simp; omega, h1, fun j v hv => ?_⟩
 rw [List.getElem?_append] at hv
 have hlen : (cs.take o).length = o := by simp; omega
 rw [hlen] at hv
 split at hv
 ·rename_i hlt
  rw [List.getElem?_take] at hv
  simp [hlt] at hv
  exact .inl ⟨hlt, hv⟩
 ·rename_i hge
  rw [List.getElem?_append] at hv
  split at hv
  ·exact .inr (.inl ⟨by omega, by omega, hv⟩)
  ·rw [List.getElem?_drop] at hv
   refine .inr (.inr ⟨by omega, ?_⟩)
   rwa [show o + vs.length + (j - o - vs.length) = j by omega] at hv
theorem splice_mem {cs vs l : List SV} {o : Nat} (hs : splice cs o vs = some l) : ∀ v ∈ l, v ∈ cs \/ v ∈ vs := by
 obtain ⟨h1, rfl⟩ := splice_ok hs
 intro v hv
 simp only [List.mem_append] at hv
 rcases hv with hv | hv | hv
 ·exact .inl (List.mem_of_mem_take hv)
 ·exact .inr hv
 ·exact .inl (List.mem_of_mem_drop hv)
theorem run_write {b off : Nat} {arr : Array Value} {E : TypeId} {mk : Nat × Nat} (hb : w.heap[b]? = some (.cells arr E mk)) {vs : List SV} (hl : off + vs.length <= arr.size) (hu : unfrozen mk off (off + vs.length)) (hf : vs.all SV.flat = true) :
  (storeCells ⟨b, off, none⟩ (vs.map (conc ρ))).run P w = .ok () (w.setCells b off (vs.map (conc ρ))) := by
 have := run_storeCells_cells (P := P) b off (vs.map (conc ρ)) 0 w (fun j hj => by
   simp at hj
   simp [World.cell?, hb, show off + 0 + j < arr.size by omega]
   omega) (fun j hj => by
   simp at hj
   have := hu (off + j) (by omega) (by omega)
   simp [World.frozen?, hb]
   omega) (fun v hv => by
   simp only [List.mem_map] at hv
   obtain ⟨x, hx, rfl⟩ := hv
   exact flat_one ρ (List.all_eq_true.1 hf x hx))
 simpa using this
theorem BoxRel.write {b off : Nat} {cs vs l : List SV} (hb : BoxRel ρ H.size w b cs) (hs : splice cs off vs = some l) (hok : okL ρ H.size vs) (hf : vs.all SV.flat = true) :
  (storeCells ⟨b, off, none⟩ (vs.map (conc ρ))).run P w = .ok () (w.setCells b off (vs.map (conc ρ))) /\ BoxRel ρ H.size (w.setCells b off (vs.map (conc ρ))) b l := by
 obtain ⟨arr, E, mk, h1, h2, h3, h4⟩ := hb.blk
 obtain ⟨s1, s2, s3⟩ := splice_get hs
 refine ⟨run_write h1 (by omega) (fun j hj1 hj2 => h4 j (by omega) (by omega)) hf, ?_⟩
 obtain ⟨arr', k1, k2, k3, k4, k5⟩ := setCells_heap_eq b (vs.map (conc ρ)) off w h1 (by simp; omega)
 refine ⟨⟨arr', E, mk, k1, by omega, fun j v hv => ?_, by rw [s1]; exact h4⟩, fun v hv => ?_⟩
 ·rcases s3 j v hv with ⟨hj, hv⟩ | ⟨hj1, hj2, hv⟩ | ⟨hj, hv⟩
  ·rw [k3 j hj]; exact h3 j v hv
  ·have := k4 (j - off) (conc ρ v) (by simp [hv])
   rwa [show off + (j - off) = j by omega] at this
  ·rw [k5 j (by simpa using hj)]; exact h3 j v hv
 ·rcases splice_mem hs v hv with hv | hv
  ·exact hb.ok v hv
  ·exact ⟨(okL_iff _ _ _).1 hok v hv, List.all_eq_true.1 hf v hv⟩
theorem box_turned {u : Nat} {cs l : List SV} {w' : World} (hr : Rel P h cx ρ lam T H a w) (hu : T[u]? = some (.box cs)) (hbox : BoxRel ρ H.size w' (lam u) l) (hsame : Same w w') (hsz : w'.heap.size = w.heap.size)
  (hne : ∀ b, b ≠ lam u -> w'.heap[b]? = w.heap[b]?) : Rel P h cx ρ lam (setD T (some u) (.box l)) H a w' := by
 have hrow : ∀ r row, H.get r = some row -> row.kind ≠ 0 -> w'.heap[(ρ r).block]? = w.heap[(ρ r).block]? := fun r row hg hk => hne _ (hr.tmps.boxrow u cs hu r row hg hk)
 have hnew := hr.tmps.boxnew u cs hu
 refine ⟨hr.heap.world hsame (by omega) (fun b hb => hne b (by omega)) hrow, ?_⟩
 have key : ∀ (t : Nat) (cs' : List SV), (T.set u (SV.box l))[t]? = some (SV.box cs') -> (t = u /\ cs' = l) \/ (t ≠ u /\ T[t]? = some (SV.box cs')) := fun t cs' hx => by
  rcases getElem?_set_cases hx with ⟨e1, e2, _⟩ | ⟨e1, e2⟩
  ·cases e2; exact .inl ⟨e1, rfl⟩
  ·exact .inr ⟨e1, e2⟩
 have old : ∀ (t : Nat) (cs' : List SV), (T.set u (SV.box l))[t]? = some (SV.box cs') -> ∃ cs'', T[t]? = some (SV.box cs'') := fun t cs' hx => by
  rcases key t cs' hx with ⟨rfl, _⟩ | ⟨_, e⟩
  ·exact ⟨cs, hu⟩
  ·exact ⟨cs', e⟩
 simp only [setD]
 refine ⟨by simp [hr.tmps.len], fun t x hx => ?_, fun t cs' hx => ?_, fun t t' c c' hx hx' hne' => ?_, fun t cs' hx r row hg hk => ?_, fun t cs' hx => ?_, fun t cs' hx => ?_, hr.tmps.nodefer⟩
 ·rcases getElem?_set_cases hx with ⟨rfl, rfl, _⟩ | ⟨e1, e2⟩
  ·have := hr.tmps.slot t _ hu
   simp only [SlotRel] at this ⊢
   exact this
  ·exact hr.tmps.slot t x e2
 ·rcases key t cs' hx with ⟨rfl, rfl⟩ | ⟨e1, e2⟩
  ·exact hbox
  ·exact (hr.tmps.box t cs' e2).world (hne _ (hr.tmps.boxsep t u _ _ e2 hu e1))
 ·obtain ⟨d, hd⟩ := old t c hx
  obtain ⟨d', hd'⟩ := old t' c' hx'
  exact hr.tmps.boxsep t t' d d' hd hd' hne'
 ·obtain ⟨d, hd⟩ := old t cs' hx
  exact hr.tmps.boxrow t d hd r row hg hk
 ·obtain ⟨d, hd⟩ := old t cs' hx
  exact hr.tmps.boxloc t d hd
 ·obtain ⟨d, hd⟩ := old t cs' hx
  exact hr.tmps.boxnew t d hd
theorem run_storeAt {t : TypeId} {n : Nat} {v : Value} {vs : List SV} {b off : Nat} {w' : World} (hs : sizeT P t = some n) (hv : v.cells.toList = vs.map (conc ρ)) (hn : vs.length = n)
  (hst : (storeCells ⟨b, off, none⟩ (vs.map (conc ρ))).run P w = .ok () w') : (Instr.storeAt t (.pointer (some ⟨b, off, none⟩)) v).run P w = .ok () w' := by
 have hsz : v.cells.size = n := by rw [<- Array.length_toList, hv]; simpa using hn
 simp [Instr.storeAt, Instr.sureAddr, storeVar, run_sizeT hs, hsz, hv, hst]
theorem D_lstore {o : Oper} {t : TypeId} {u n : Nat} {v : Operand} {y : Opd} {l : List SV} (hop : o.op = .store t (.tmp u) v) (hd : o.dst = none) (hs : sizeT P t = some n) (hy : opd h v = some y) (hr : Rel P h cx ρ lam T H a w)
  (hz : opB (.store 0 n) [getT T u, y.ev T] = some l) : Does P h cx a w o (setD T (some u) (.box l)) H := by
 have hj : getT T u ≠ .junk := by intro e; rw [e] at hz; simp [opB] at hz
 obtain ⟨s1, s2⟩ := slot_of hr.tmps hj
 have ey := ev_opd hr.tmps hy
 generalize getT T u = su at *
 cases su <;> simp only [opB] at hz <;> (try cases hz)
 rename_i cs
 simp only [SlotRel] at s1
 cases hb : ((y.ev T).item && Nat.beq (y.ev T).cells.length n) with
 | false => simp [hb] at hz
 | true =>
  simp only [hb, cond_true] at hz
  simp only [Bool.and_eq_true] at hb
  obtain ⟨k1, k2, k3, k4⟩ := ey.item hb.1
  obtain ⟨w1, w2⟩ := (hr.tmps.box u cs s2).write (P := P) hz k1 k2
  have hm := setCells_meta (lam u) ((y.ev T).cells.map (conc ρ)) 0 w
  have := box_turned hr s2 w2 ⟨hm.1, hm.2.1, hm.2.2⟩ (setCells_size _ _ _ _) (fun b hb => setCells_heap_ne _ _ _ _ hb)
  refine ⟨Go.undef, _, ρ, lam, .inr ⟨?_, rfl⟩, by rw [hd]; exact this⟩
  have hst := run_storeAt (P := P) (w := w) hs k4 (Nat.eq_of_beq_eq_true hb.2) w1
  have eu : a.eval (.tmp u) = .pointer (some ⟨lam u, 0, none⟩) := s1
  simp [execOp, hop, eu, hst]
theorem D_lstorep {o : Oper} {t : TypeId} {u b n : Nat} {v : Operand} {y : Opd} {l : List SV} (hop : o.op = .store t (.tmp u) v) (hd : o.dst = none) (hder : h.derOf u = some b) (hs : sizeT P t = some n) (hy : opd h v = some y) (hr : Rel P h cx ρ lam T H a w)
  (hz : opB (.storep n) [getT T b, getT T u, y.ev T] = some l) : Does P h cx a w o (setD T (some b) (.box l)) H := by
 have hj : getT T u ≠ .junk := by intro e; rw [e] at hz; cases getT T b <;> simp [opB] at hz
 have hj' : getT T b ≠ .junk := by intro e; rw [e] at hz; simp [opB] at hz
 obtain ⟨s1, s2⟩ := slot_of hr.tmps hj
 obtain ⟨s3, s4⟩ := slot_of hr.tmps hj'
 have ey := ev_opd hr.tmps hy
 generalize getT T u = su at *
 generalize getT T b = sb at *
 cases sb <;> cases su <;> simp only [opB] at hz <;> (try cases hz)
 rename_i cs off
 simp only [SlotRel] at s1 s3
 obtain ⟨u', hu', e1⟩ := s1
 rw [hder] at hu'
 cases hu'
 cases hb : ((y.ev T).item && Nat.beq (y.ev T).cells.length n) with
 | false => simp [hb] at hz
 | true =>
  simp only [hb, cond_true] at hz
  simp only [Bool.and_eq_true] at hb
  obtain ⟨k1, k2, k3, k4⟩ := ey.item hb.1
  obtain ⟨w1, w2⟩ := (hr.tmps.box b cs s4).write (P := P) hz k1 k2
  have hm := setCells_meta (lam b) ((y.ev T).cells.map (conc ρ)) off w
  have := box_turned hr s4 w2 ⟨hm.1, hm.2.1, hm.2.2⟩ (setCells_size _ _ _ _) (fun b hb => setCells_heap_ne _ _ _ _ hb)
  refine ⟨Go.undef, _, ρ, lam, .inr ⟨?_, rfl⟩, by rw [hd]; exact this⟩
  have hst := run_storeAt (P := P) (w := w) hs k4 (Nat.eq_of_beq_eq_true hb.2) w1
  have eu : a.eval (.tmp u) = .pointer (some ⟨lam b, off, none⟩) := e1
  simp [execOp, hop, eu, hst]
theorem Does.lptr {o : Oper} {d u off : Nat} (hr : Rel P h cx ρ lam T H a w) (hd : o.dst = some d) (hder : h.derOf d = some u) (hrun : (execOp a.eval o).run P w = .ok (.value (.pointer (some ⟨lam u, off, none⟩))) w) :
  Does P h cx a w o (setD T o.dst (.lptr off)) H := by
 refine ⟨_, w, ρ, lam, .inl hrun, hr.heap, hr.tmps.put o.dst (by simp) fun t ht => ?_⟩
 rw [hd] at ht; cases ht
 exact ⟨u, hder, rfl⟩
theorem isDer_eq {o : Oper} {u : Nat} (hi : isDer h o u = true) : ∃ d, o.dst = some d /\ h.derOf d = some u := by
 unfold isDer at hi
 cases hd : o.dst with
 | none => simp [hd] at hi
 | some d =>
  simp only [hd] at hi
  cases hu : h.derOf d with
  | none => simp [hu] at hi
  | some b =>
   simp only [hu] at hi
   have := Nat.eq_of_beq_eq_true hi
   subst this
   exact ⟨d, rfl, hu⟩
theorem D_lfld {o : Oper} {s : TypeId} {fields : Array Field} {f u m : Nat} {fl : Field} (hop : o.op = .fieldAddr s (.tmp u) f) (ht : P.underlying s = some (.struct fields)) (hf : fields[f]? = some fl) (hs : sizeT P fl.type = some m) (hm : m ≠ 0)
  (hi : isDer h o u = true) (hr : Rel P h cx ρ lam T H a w) {z : SV} (hz : opP (.lfld fl.offset) [getT T u] = some z) : Does P h cx a w o (setD T o.dst z) H := by
 have hj : getT T u ≠ .junk := by intro e; rw [e] at hz; simp [opP] at hz
 obtain ⟨s1, s2⟩ := slot_of hr.tmps hj
 generalize getT T u = su at *
 cases su <;> simp [opP] at hz
 subst hz
 simp only [SlotRel] at s1
 obtain ⟨d, hd, hder⟩ := isDer_eq hi
 refine Does.lptr hr hd hder ?_
 simp [execOp, hop, Act.eval, s1, Instr.fieldAt, Instr.sureAddr, run_underlying ht, hf, run_fieldPlace hs hm, Addr.add_lit]
theorem D_lfldp {o : Oper} {s : TypeId} {fields : Array Field} {f u b m : Nat} {fl : Field} (hop : o.op = .fieldAddr s (.tmp u) f) (hdu : h.derOf u = some b) (ht : P.underlying s = some (.struct fields)) (hf : fields[f]? = some fl) (hs : sizeT P fl.type = some m) (hm : m ≠ 0)
  (hi : isDer h o b = true) (hr : Rel P h cx ρ lam T H a w) {z : SV} (hz : opP (.lfldp fl.offset) [getT T u] = some z) : Does P h cx a w o (setD T o.dst z) H := by
 have hj : getT T u ≠ .junk := by intro e; rw [e] at hz; simp [opP] at hz
 obtain ⟨s1, s2⟩ := slot_of hr.tmps hj
 generalize getT T u = su at *
 cases su <;> simp [opP] at hz
 subst hz
 simp only [SlotRel] at s1
 obtain ⟨u', hu', e1⟩ := s1
 rw [hdu] at hu'
 cases hu'
 obtain ⟨d, hd, hder⟩ := isDer_eq hi
 refine Does.lptr hr hd hder ?_
 simp [execOp, hop, Act.eval, e1, Instr.fieldAt, Instr.sureAddr, run_underlying ht, hf, run_fieldPlace hs hm, Addr.add_lit]
theorem D_lidx {o : Oper} {t e : TypeId} {len m u : Nat} {i : Operand} {i' : Opd} (hop : o.op = .indexAddr t (.tmp u) i) (ht : P.underlying t = some (.array len e)) (hs : sizeT P e = some m) (hx : opd h i = some i')
  (hi : isDer h o u = true) (hr : Rel P h cx ρ lam T H a w) {z : SV} (hz : opP (.lidx len m) [getT T u, i'.ev T] = some z) : Does P h cx a w o (setD T o.dst z) H := by
 have hj : getT T u ≠ .junk := by intro e; rw [e] at hz; simp [opP] at hz
 obtain ⟨s1, s2⟩ := slot_of hr.tmps hj
 have ei := ev_opd hr.tmps hx
 generalize getT T u = su at *
 generalize i'.ev T = si at *
 cases su <;> cases si <;> simp [opP] at hz
 rename_i cs k n
 obtain ⟨hn, rfl⟩ := hz
 have e2 := ei.int_of
 simp only [SlotRel] at s1
 obtain ⟨d, hd, hder⟩ := isDer_eq hi
 refine Does.lptr hr hd hder ?_
 have eu : a.eval (.tmp u) = .pointer (some ⟨lam u, 0, none⟩) := s1
 simp [execOp, hop, eu, e2, Instr.indexAt, Instr.sureAddr, asIntOf, run_underlying ht, hn, run_sizeT hs, Addr.add_lit]
theorem D_lidxp {o : Oper} {t e : TypeId} {len m u b : Nat} {i : Operand} {i' : Opd} (hop : o.op = .indexAddr t (.tmp u) i) (hdu : h.derOf u = some b) (ht : P.underlying t = some (.array len e)) (hs : sizeT P e = some m) (hx : opd h i = some i')
  (hi : isDer h o b = true) (hr : Rel P h cx ρ lam T H a w) {z : SV} (hz : opP (.lidxp len m) [getT T u, i'.ev T] = some z) : Does P h cx a w o (setD T o.dst z) H := by
 have hj : getT T u ≠ .junk := by intro e; rw [e] at hz; simp [opP] at hz
 obtain ⟨s1, s2⟩ := slot_of hr.tmps hj
 have ei := ev_opd hr.tmps hx
 generalize getT T u = su at *
 generalize i'.ev T = si at *
 cases su <;> cases si <;> simp [opP] at hz
 rename_i off k n
 obtain ⟨hn, rfl⟩ := hz
 have e2 := ei.int_of
 simp only [SlotRel] at s1
 obtain ⟨u', hu', e1⟩ := s1
 rw [hdu] at hu'
 cases hu'
 obtain ⟨d, hd, hder⟩ := isDer_eq hi
 refine Does.lptr hr hd hder ?_
 have eu : a.eval (.tmp u) = .pointer (some ⟨lam b, off, none⟩) := e1
 simp [execOp, hop, eu, e2, Instr.indexAt, Instr.sureAddr, asIntOf, run_underlying ht, hn, run_sizeT hs, Addr.add_lit]
end
end Go.Sh

/- How the relation is carried on. The frame's own boxes. Memory turned. -/
import Derived.Test.YtkgbokkeemjkkaaGreatSh9
set_option linter.unusedVariables false
set_option linter.unusedSimpArgs false
namespace Go.Sh
open Go
theorem flat_one {v : SV} (ρ : Place) (h : v.flat = true) : (conc ρ v).oneCell' = true := by
 cases v <;> simp_all [SV.flat, conc, Value.oneCell']
theorem setCell_heap_ne (w : World) (a : Addr) (v : Value) {b : Nat} (h : b ≠ a.block) : (w.setCell a v).heap[b]? = w.heap[b]? := by
 simp [World.setCell, Array.getElem?_modify, Ne.symm h]
theorem setCell_heap_eq (w : World) (b o : Nat) (v : Value) {arr : Array Value} {E : TypeId} {mk : Nat × Nat} (h : w.heap[b]? = some (.cells arr E mk)) :
  (w.setCell ⟨b, o, none⟩ v).heap[b]? = some (.cells (arr.setIfInBounds o v) E mk) := by
 simp [World.setCell, Array.getElem?_modify, h]
theorem setCells_heap_ne (b : Nat) : ∀ (vs : List Value) (o : Nat) (w : World) {b' : Nat}, b' ≠ b -> (w.setCells b o vs).heap[b']? = w.heap[b']?
 | [], _, _, _, _ => rfl
 | v :: vs, o, w, b', h => by rw [World.setCells, setCells_heap_ne b vs (o + 1) _ h, setCell_heap_ne w _ v (by simpa using h)]
theorem setCells_size (b : Nat) : ∀ (vs : List Value) (o : Nat) (w : World), (w.setCells b o vs).heap.size = w.heap.size
 | [], _, _ => rfl
 | v :: vs, o, w => by rw [World.setCells, setCells_size b vs (o + 1)]; simp
theorem setCells_meta (b : Nat) : ∀ (vs : List Value) (o : Nat) (w : World), (w.setCells b o vs).os = w.os /\ (w.setCells b o vs).tape = w.tape /\ (w.setCells b o vs).output = w.output
 | [], _, _ => ⟨rfl, rfl, rfl⟩
 | v :: vs, o, w => by
  rw [World.setCells]
  obtain ⟨h1, h2, h3⟩ := setCells_meta b vs (o + 1) (w.setCell ⟨b, o, none⟩ v)
  exact ⟨h1, h2, h3⟩
theorem setCells_heap_eq (b : Nat) : ∀ (vs : List Value) (o : Nat) (w : World) {arr : Array Value} {E : TypeId} {mk : Nat × Nat}, w.heap[b]? = some (.cells arr E mk) -> o + vs.length <= arr.size ->
  ∃ arr', (w.setCells b o vs).heap[b]? = some (.cells arr' E mk) /\ arr'.size = arr.size /\ (∀ j, j < o -> arr'[j]? = arr[j]?) /\ (∀ (j : Nat) (v : Value), vs[j]? = some v -> arr'[o + j]? = some v) /\ (∀ j, o + vs.length <= j -> arr'[j]? = arr[j]?)
 | [], o, w, arr, E, mk, h, _ => ⟨arr, h, rfl, fun _ _ => rfl, fun _ _ h => by simp at h, fun _ _ => rfl⟩
 | v :: vs, o, w, arr, E, mk, h, hl => by
  simp only [List.length_cons] at hl
  obtain ⟨arr', h1, h2, h3, h4, h5⟩ := setCells_heap_eq b vs (o + 1) (w.setCell ⟨b, o, none⟩ v) (setCell_heap_eq w b o v h) (by simp; omega)
  refine ⟨arr', by rw [World.setCells]; exact h1, by simpa using h2, fun j hj => ?_, fun j u hu => ?_, fun j hj => ?_⟩
  ·rw [h3 j (by omega), Array.getElem?_setIfInBounds]
   simp; omega
  ·cases j with
   | zero =>
    simp at hu; subst hu
    rw [Nat.add_zero, h3 o (by omega), Array.getElem?_setIfInBounds]
    simp; omega
   | succ j =>
    have := h4 j u (by simpa using hu)
    rwa [show o + (j + 1) = o + 1 + j by omega]
  ·simp only [List.length_cons] at hj
   rw [h5 j (by omega), Array.getElem?_setIfInBounds]
   simp; omega
structure Same (w w' : World) : Prop where
 os : w'.os = w.os
 tape : w'.tape = w.tape
 output : w'.output = w.output
section
variable {P : Program} {h : Hints} {cx : Ctx} {ρ : Place} {lam : Nat -> Nat} {T : Tmps} {H : Heap} {a : Act} {w : World}
theorem RowRel.lt {n : Nat} {l : Loc} {row : Row} (hr : RowRel ρ n w l row) : l.block < w.heap.size := by
 obtain ⟨arr, E, mk, hb, _⟩ := hr.blk
 exact (Array.getElem?_eq_some_iff.1 hb).1
theorem BoxRel.lt {n b : Nat} {cs : List SV} (hb : BoxRel ρ n w b cs) : b < w.heap.size := by
 obtain ⟨arr, E, mk, hb, _⟩ := hb.blk
 exact (Array.getElem?_eq_some_iff.1 hb).1
theorem RowRel.world {n : Nat} {l : Loc} {row : Row} {w' : World} (hr : RowRel ρ n w l row) (hb : w'.heap[l.block]? = w.heap[l.block]?) : RowRel ρ n w' l row :=
 ⟨by rw [hb]; exact hr.blk, hr.fits, hr.ok, hr.esz⟩
theorem BoxRel.world {n b : Nat} {cs : List SV} {w' : World} (hr : BoxRel ρ n w b cs) (hb : w'.heap[b]? = w.heap[b]?) : BoxRel ρ n w' b cs :=
 ⟨by rw [hb]; exact hr.blk, hr.ok⟩
theorem RowRel.ext {n m : Nat} {l : Loc} {row : Row} {ρ' : Place} (hr : RowRel ρ n w l row) (hρ : ∀ i, i < n -> ρ' i = ρ i) (hm : n <= m) : RowRel ρ' m w l row := by
 obtain ⟨arr, E, mk, h1, h2, h3, h4⟩ := hr.blk
 refine ⟨⟨arr, E, mk, h1, h2, fun j v hv => ?_, h4⟩, hr.fits, fun v hv => ⟨okSV.ext hρ hm v (hr.ok v hv).1, (hr.ok v hv).2⟩, hr.esz⟩
 rw [conc_congr hρ v (hr.ok v (List.mem_of_getElem? hv)).1]
 exact h3 j v hv
theorem BoxRel.ext {n m b : Nat} {cs : List SV} {ρ' : Place} (hr : BoxRel ρ n w b cs) (hρ : ∀ i, i < n -> ρ' i = ρ i) (hm : n <= m) : BoxRel ρ' m w b cs := by
 obtain ⟨arr, E, mk, h1, h2, h3, h4⟩ := hr.blk
 refine ⟨⟨arr, E, mk, h1, h2, fun j v hv => ?_, h4⟩, fun v hv => ⟨okSV.ext hρ hm v (hr.ok v hv).1, (hr.ok v hv).2⟩⟩
 rw [conc_congr hρ v (hr.ok v (List.mem_of_getElem? hv)).1]
 exact h3 j v hv
theorem SlotRel.ext {n m t : Nat} {sv : SV} {v : Value} {der : Nat -> Option Nat} {ρ' : Place} (hs : SlotRel ρ lam der n t sv v) (hρ : ∀ i, i < n -> ρ' i = ρ i) (hm : n <= m) : SlotRel ρ' lam der m t sv v := by
 cases sv <;> simp only [SlotRel] at hs ⊢ <;> first
  | exact hs
  | exact ⟨okSV.ext hρ hm _ hs.1, by rw [conc_congr hρ _ hs.1]; exact hs.2⟩
theorem HRel.world {w' : World} (hr : HRel cx ρ H w) (hs : Same w w') (hsz : w.heap.size <= w'.heap.size)
  (hold : ∀ b, b < cx.w0.heap.size -> w'.heap[b]? = w.heap[b]?) (hrow : ∀ r row, H.get r = some row -> row.kind ≠ 0 -> w'.heap[(ρ r).block]? = w.heap[(ρ r).block]?) : HRel cx ρ H w' :=
 ⟨hs.os.trans hr.os, hs.tape.trans hr.tape, hs.output.trans hr.output, Nat.le_trans hr.size hsz, fun b hb hn => (hold b hb).trans (hr.keep b hb hn),
  fun r row hg hk => (hr.rows r row hg hk).world (hrow r row hg hk), hr.own, hr.sep, hr.ext, hr.old⟩
theorem getElem?_set_cases {T : Tmps} {d t : Nat} {v x : SV} (h : (T.set d v)[t]? = some x) : (t = d /\ x = v /\ d < T.length) \/ (t ≠ d /\ T[t]? = some x) := by
 rw [List.getElem?_set] at h
 split at h
 ·rename_i e
  subst e
  split at h
  ·rename_i hl; cases h; exact .inl ⟨rfl, rfl, hl⟩
  ·cases h
 ·rename_i e
  exact .inr ⟨fun e' => e e'.symm, h⟩
theorem getD_put (a : Act) (d t : Nat) (v : Value) (h : t ≠ d) : (a.put (some d) v).tmps.getD t Go.undef = a.tmps.getD t Go.undef := by
 simp [Act.put, Array.getD_eq_getD_getElem?, Array.getElem?_setIfInBounds, Ne.symm h]
theorem getD_put_self (a : Act) (d : Nat) (v : Value) (h : d < a.tmps.size) : (a.put (some d) v).tmps.getD d Go.undef = v := by
 simp [Act.put, Array.getD_eq_getD_getElem?, Array.getElem?_setIfInBounds, h]
theorem TRel.clear1 (hr : TRel cx ρ lam h.isLoc h.derOf H w T a) (d : Nat) : TRel cx ρ lam h.isLoc h.derOf H w (T.set d .junk) a := by
 have key : ∀ (t : Nat) (x : SV), (T.set d SV.junk)[t]? = some x -> x = SV.junk \/ T[t]? = some x := fun t x hx => by
  rcases getElem?_set_cases hx with ⟨_, e, _⟩ | ⟨_, e⟩
  ·exact .inl e
  ·exact .inr e
 refine ⟨by simpa using hr.len, fun t v hv => ?_, fun t cs hv => ?_, fun t t' cs cs' hv hv' => ?_, fun t cs hv => ?_, fun t cs hv => ?_, fun t cs hv => ?_, hr.nodefer⟩
 ·rcases key t v hv with rfl | e
  ·trivial
  ·exact hr.slot t v e
 ·rcases key t _ hv with e | e
  ·cases e
  ·exact hr.box t cs e
 ·rcases key t _ hv with e | e
  ·cases e
  rcases key t' _ hv' with e' | e'
  ·cases e'
  exact hr.boxsep t t' cs cs' e e'
 ·rcases key t _ hv with e | e
  ·cases e
  ·exact hr.boxrow t cs e
 ·rcases key t _ hv with e | e
  ·cases e
  ·exact hr.boxloc t cs e
 ·rcases key t _ hv with e | e
  ·cases e
  ·exact hr.boxnew t cs e
theorem TRel.clear : ∀ (l : List Nat) {T : Tmps} (hr : TRel cx ρ lam h.isLoc h.derOf H w T a), TRel cx ρ lam h.isLoc h.derOf H w (clear T l) a
 | [], _, hr => hr
 | n :: l, _, hr => TRel.clear l (hr.clear1 n)
theorem TRel.put (hr : TRel cx ρ lam h.isLoc h.derOf H w T a) (d : Option Nat) {y : SV} {v : Value} (hb : ∀ cs, y ≠ .box cs) (hs : ∀ t, d = some t -> SlotRel ρ lam h.derOf H.size t y v) :
  TRel cx ρ lam h.isLoc h.derOf H w (setD T d y) (a.put d v) := by
 cases d with
 | none => simpa [setD, Act.put] using hr
 | some d =>
  have key : ∀ (t : Nat) (cs : List SV), (T.set d y)[t]? = some (SV.box cs) -> T[t]? = some (SV.box cs) := fun t cs hx => by
   rcases getElem?_set_cases hx with ⟨_, e, _⟩ | ⟨_, e⟩
   ·exact absurd e.symm (hb cs)
   ·exact e
  simp only [setD]
  refine ⟨by simp [Act.put, hr.len], fun t x hx => ?_, fun t cs hv => hr.box t cs (key t cs hv), fun t t' cs cs' hv hv' => hr.boxsep t t' cs cs' (key t cs hv) (key t' cs' hv'),
   fun t cs hv => hr.boxrow t cs (key t cs hv), fun t cs hv => hr.boxloc t cs (key t cs hv), fun t cs hv => hr.boxnew t cs (key t cs hv), hr.nodefer⟩
  rcases getElem?_set_cases hx with ⟨e1, e2, e3⟩ | ⟨e1, e2⟩
  ·subst e1; subst e2
   rw [getD_put_self a t v (by rw [<- hr.len]; exact e3)]
   exact hs t rfl
  ·rw [getD_put a d t v e1]
   exact hr.slot t x e2
theorem VR.slot {n t : Nat} {der : Nat -> Option Nat} {y : SV} {v : Value} (hv : VR ρ n y v) : (∀ cs, y ≠ .box cs) /\ SlotRel ρ lam der n t y v := by
 rcases hv with rfl | ⟨h1, rfl⟩
 ·exact ⟨by simp, trivial⟩
 ·cases y <;> simp_all [okSV, SlotRel]
theorem TRel.put_vr (hr : TRel cx ρ lam h.isLoc h.derOf H w T a) (d : Option Nat) {y : SV} {v : Value} (hv : VR ρ H.size y v) : TRel cx ρ lam h.isLoc h.derOf H w (setD T d y) (a.put d v) :=
 hr.put d (VR.slot (lam := lam) (t := 0) (der := h.derOf) hv).1 fun t _ => (VR.slot (lam := lam) (t := t) (der := h.derOf) hv).2
theorem TRel.heap {ρ' : Place} {H' : Heap} {w' : World} (hr : TRel cx ρ lam h.isLoc h.derOf H w T a) (hρ : ∀ i, i < H.size -> ρ' i = ρ i) (hm : H.size <= H'.size)
  (hbox : ∀ t cs, T[t]? = some (.box cs) -> w'.heap[lam t]? = w.heap[lam t]?)
  (hrow : ∀ t cs, T[t]? = some (.box cs) -> ∀ r row, H'.get r = some row -> row.kind ≠ 0 -> (ρ' r).block ≠ lam t) : TRel cx ρ' lam h.isLoc h.derOf H' w' T a :=
 ⟨hr.len, fun t v hv => (hr.slot t v hv).ext hρ hm, fun t cs hv => ((hr.box t cs hv).ext hρ hm).world (hbox t cs hv), hr.boxsep, hrow, hr.boxloc, hr.boxnew, hr.nodefer⟩
end
end Go.Sh
namespace Go.Sh
open Go
def Does (P : Program) (h : Hints) (cx : Ctx) (a : Act) (w : World) (o : Oper) (T' : Tmps) (H' : Heap) : Prop :=
 ∃ (v : Value) (w' : World) (ρ' : Place) (lam' : Nat -> Nat), ((execOp a.eval o).run P w = .ok (.value v) w' \/ ((execOp a.eval o).run P w = .ok .skip w' /\ v = Go.undef)) /\ Rel P h cx ρ' lam' T' H' (a.put o.dst v) w'
section
variable {P : Program} {h : Hints} {cx : Ctx} {ρ : Place} {lam : Nat -> Nat} {T : Tmps} {H : Heap} {a : Act} {w : World}
theorem Does.plain {o : Oper} {y : SV} (hr : Rel P h cx ρ lam T H a w) (hrun : RunsTo P ρ H.size a w o y) (clr : List Nat) : Does P h cx a w o (setD (clear T clr) o.dst y) H := by
 obtain ⟨v, h1, h2⟩ := hrun
 exact ⟨v, w, ρ, lam, .inl h1, hr.heap, (TRel.clear clr hr.tmps).put_vr o.dst h2⟩
theorem clear_get : ∀ (l : List Nat) (T : Tmps) (t : Nat) (x : SV), (clear T l)[t]? = some x -> x = SV.junk \/ (t ∉ l /\ T[t]? = some x)
 | [], T, t, x, hx => .inr ⟨by simp, hx⟩
 | n :: l, T, t, x, hx => by
  rcases clear_get l (T.set n .junk) t x hx with e | ⟨h1, h2⟩
  ·exact .inl e
  ·rcases getElem?_set_cases h2 with ⟨e1, e2, _⟩ | ⟨e1, e2⟩
   ·exact .inl e2
   ·exact .inr ⟨by simp [e1, h1], e2⟩
theorem mem_clrOf {h : Hints} {t d : Nat} (hd : h.derOf t = some d) : t ∈ h.clrOf d := by
 have key : ∀ (l : List (Nat × Nat)), assoc l t = some d -> (t, d) ∈ l := by
  intro l
  induction l with
  | nil => intro e; simp [assoc] at e
  | cons p l ih =>
   intro e
   obtain ⟨i, x⟩ := p
   simp only [assoc] at e
   cases hb : Nat.beq i t with
   | true =>
    simp only [hb, cond_true, Option.some.injEq] at e
    have := Nat.eq_of_beq_eq_true hb
    subst this; subst e; simp
   | false =>
    simp only [hb, cond_false] at e
    exact List.mem_cons_of_mem _ (ih e)
 simp only [Hints.clrOf, List.mem_map, List.mem_filter]
 exact ⟨(t, d), ⟨key _ hd, by simp⟩, rfl⟩
theorem clear_len : ∀ (l : List Nat) (T : Tmps), (clear T l).length = T.length
 | [], _ => rfl
 | n :: l, T => by rw [clear, clear_len l]; simp
theorem unfrozen_zero (lo hi : Nat) : unfrozen (0, 0) lo hi := fun j _ _ hj => by simp at hj
theorem new_box {d : Nat} {cs : List SV} (hr : Rel P h cx ρ lam T H a w) (hl : h.isLoc d = true) (hok : okL ρ H.size cs) (hf : cs.all SV.flat = true) (E : TypeId) :
  Rel P h cx ρ (fun t => if t = d then w.heap.size else lam t) (setD (clear T (h.clrOf d)) (some d) (.box cs)) H (a.put (some d) (.pointer (some ⟨w.heap.size, 0, none⟩))) (w.alloc (.cells (cs.map (conc ρ)).toArray E)) := by
 have hold : ∀ b, b < w.heap.size -> (w.alloc (.cells (cs.map (conc ρ)).toArray E)).heap[b]? = w.heap[b]? := fun b hb => heap_alloc_old w _ b hb
 have hheap : HRel cx ρ H (w.alloc (.cells (cs.map (conc ρ)).toArray E)) := hr.heap.world ⟨rfl, rfl, rfl⟩ (by simp) (fun b hb => hold b (Nat.lt_of_lt_of_le hb hr.heap.size))
  (fun r row hg hk => hold _ (hr.heap.rows r row hg hk).lt)
 have ht := TRel.clear (h.clrOf d) hr.tmps
 refine ⟨hheap, ?_⟩
 have hnew : (w.alloc (.cells (cs.map (conc ρ)).toArray E)).heap[w.heap.size]? = some (.cells (cs.map (conc ρ)).toArray E (0, 0)) := heap_alloc_new w _
 have hbox : BoxRel ρ H.size (w.alloc (.cells (cs.map (conc ρ)).toArray E)) w.heap.size cs :=
  ⟨⟨_, E, (0, 0), hnew, by simp, fun j v hv => by simp [hv], unfrozen_zero _ _⟩, fun v hv => ⟨(okL_iff _ _ _).1 hok v hv, List.all_eq_true.1 hf v hv⟩⟩
 have hlamlt : ∀ t cs', T[t]? = some (.box cs') -> lam t < w.heap.size := fun t cs' hb => (hr.tmps.box t cs' hb).lt
 simp only [setD]
 have key : ∀ (t : Nat) (cs' : List SV), ((clear T (h.clrOf d)).set d (SV.box cs))[t]? = some (SV.box cs') -> (t = d /\ cs' = cs) \/ (t ≠ d /\ T[t]? = some (SV.box cs')) := fun t cs' hx => by
  rcases getElem?_set_cases hx with ⟨e1, e2, _⟩ | ⟨e1, e2⟩
  ·cases e2; exact .inl ⟨e1, rfl⟩
  ·rcases clear_get _ _ _ _ e2 with e | ⟨_, e⟩
   ·cases e
   ·exact .inr ⟨e1, e⟩
 refine ⟨by simp [Act.put, clear_len, hr.tmps.len], fun t x hx => ?_, fun t cs' hx => ?_, fun t t' c c' hx hx' hne => ?_, fun t cs' hx r row hg hk => ?_, fun t cs' hx => ?_, fun t cs' hx => ?_, ht.nodefer⟩
 ·rcases getElem?_set_cases hx with ⟨e1, e2, e3⟩ | ⟨e1, e2⟩
  ·subst e1; subst e2
   rw [getD_put_self a t _ (by rw [<- hr.tmps.len, <- clear_len (h.clrOf t) T]; exact e3)]
   simp [SlotRel]
  ·rw [getD_put a d t _ e1]
   rcases clear_get _ _ _ _ e2 with rfl | ⟨hnot, e2⟩
   ·trivial
   ·have := hr.tmps.slot t x e2
    cases x <;> simp only [SlotRel] at this ⊢ <;> first | exact this | skip
    ·simpa [e1] using this
    ·obtain ⟨u, hu, e⟩ := this
     refine ⟨u, hu, ?_⟩
     have : u ≠ d := by
      rintro rfl
      exact hnot (mem_clrOf hu)
     simpa [this] using e
 ·rcases key t cs' hx with ⟨rfl, rfl⟩ | ⟨e1, e2⟩
  ·simpa using hbox
  ·simp only [e1, if_false]
   exact (hr.tmps.box t cs' e2).world (hold _ (hlamlt t cs' e2))
 ·rcases key t c hx with ⟨rfl, rfl⟩ | ⟨e1, e2⟩
  ·rcases key t' c' hx' with ⟨rfl, rfl⟩ | ⟨e1', e2'⟩
   ·exact absurd rfl hne
   ·have := hlamlt t' c' e2'
    simp [Ne.symm hne]; omega
  ·rcases key t' c' hx' with ⟨rfl, rfl⟩ | ⟨e1', e2'⟩
   ·have := hlamlt t c e2
    simp [hne]; omega
   ·simp only [e1, e1', if_false]
    exact hr.tmps.boxsep t t' c c' e2 e2' hne
 ·rcases key t cs' hx with ⟨rfl, rfl⟩ | ⟨e1, e2⟩
  ·have := (hr.heap.rows r row hg hk).lt
   simp; omega
  ·simp only [e1, if_false]
   exact hr.tmps.boxrow t cs' e2 r row hg hk
 ·rcases key t cs' hx with ⟨rfl, rfl⟩ | ⟨e1, e2⟩
  ·exact hl
  ·exact hr.tmps.boxloc t cs' e2
 ·rcases key t cs' hx with ⟨rfl, rfl⟩ | ⟨e1, e2⟩
  ·simpa using hr.heap.size
  ·simp only [e1, if_false]
   exact hr.tmps.boxnew t cs' e2
theorem D_alloc {o : Oper} {t : TypeId} {d : Nat} {z : List SV} (hop : o.op = .alloc t) (hd : o.dst = some d) (hl : h.isLoc d = true) (hz : zeroOf P t = some z) (hr : Rel P h cx ρ lam T H a w) :
  Does P h cx a w o (setD (clear T (h.clrOf d)) (some d) (.box z)) H := by
 simp only [zeroOf, Option.bind_eq_some_iff] at hz
 obtain ⟨z', hz, n, hn, he⟩ := hz
 split at he <;> simp at he
 subst he
 obtain ⟨v, hv, hc, okz, fz, _⟩ := zeroT_ok (P := P) (w := w) (ρ := ρ) H.size hz
 have := new_box hr hl okz fz t
 refine ⟨_, _, _, _, .inl ?_, by rw [hd]; exact this⟩
 simp [execOp, hop, Instr.alloc, hv, newVar, Go.newRow, hc]
theorem VR.item {n : Nat} {x : SV} {v : Value} (hv : VR ρ n x v) (hi : x.item = true) : okL ρ n x.cells /\ x.cells.all SV.flat = true /\ v = conc ρ x /\ v.cells.toList = x.cells.map (conc ρ) := by
 have hj : x ≠ .junk := by rintro rfl; simp [SV.item, SV.flat] at hi
 obtain ⟨o1, rfl⟩ := hv.ne hj
 refine ⟨?_, ?_, rfl, item_cells ρ hi⟩
 ·cases x <;> simp_all [SV.item, SV.flat, SV.cells, okSV, okL]
 ·cases x <;> simp_all [SV.item, SV.flat, SV.cells, okSV, okL]
theorem D_box {o : Oper} {t : TypeId} {x : Operand} {d : Nat} {sx : SV} {cs : List SV} (hop : o.op = .box t x) (hd : o.dst = some d) (hl : h.isLoc d = true) (ex : VR ρ H.size sx (a.eval x)) (hz : opB .box [sx] = some cs) (hr : Rel P h cx ρ lam T H a w) :
  Does P h cx a w o (setD (clear T (h.clrOf d)) (some d) (.box cs)) H := by
 simp only [opB] at hz
 cases hi : sx.item with
 | false => simp [hi] at hz
 | true =>
  simp [hi] at hz; subst hz
  obtain ⟨k1, k2, k3, k4⟩ := ex.item hi
  have := new_box hr hl k1 k2 t
  refine ⟨_, _, _, _, .inl ?_, by rw [hd]; exact this⟩
  have : (a.eval x).cells = (sx.cells.map (conc ρ)).toArray := by rw [<- k4]
  simp [execOp, hop, Instr.box, newVar, Go.newRow, this]
theorem splice_get {cs vs l : List SV} {o : Nat} (hs : splice cs o vs = some l) : l.length = cs.length /\ o + vs.length <= cs.length /\ ∀ (j : Nat) (v : SV), l[j]? = some v ->
  (j < o /\ cs[j]? = some v) \/ (o <= j /\ j < o + vs.length /\ vs[j - o]? = some v) \/ (o + vs.length <= j /\ cs[j]? = some v) := by
 obtain ⟨h1, rfl⟩ := splice_ok hs
 refine ⟨by simp; omega, h1, fun j v hv => ?_⟩
 rw [List.getElem?_append] at hv
 have hlen : (cs.take o).length = o := by simp; omega
 rw [hlen] at hv
 split at hv
 ·rename_i hlt
  rw [List.getElem?_take] at hv
  simp [hlt] at hv
  exact .inl ⟨hlt, hv⟩
 ·rename_i hge
  rw [List.getElem?_append] at hv
  split at hv
  ·exact .inr (.inl ⟨by omega, by omega, hv⟩)
  ·rw [List.getElem?_drop] at hv
   refine .inr (.inr ⟨by omega, ?_⟩)
   rwa [show o + vs.length + (j - o - vs.length) = j by omega] at hv
theorem splice_mem {cs vs l : List SV} {o : Nat} (hs : splice cs o vs = some l) : ∀ v ∈ l, v ∈ cs \/ v ∈ vs := by
 obtain ⟨h1, rfl⟩ := splice_ok hs
 intro v hv
 simp only [List.mem_append] at hv
 rcases hv with hv | hv | hv
 ·exact .inl (List.mem_of_mem_take hv)
 ·exact .inr hv
 ·exact .inl (List.mem_of_mem_drop hv)
theorem run_write {b off : Nat} {arr : Array Value} {E : TypeId} {mk : Nat × Nat} (hb : w.heap[b]? = some (.cells arr E mk)) {vs : List SV} (hl : off + vs.length <= arr.size) (hu : unfrozen mk off (off + vs.length)) (hf : vs.all SV.flat = true) :
  (storeCells ⟨b, off, none⟩ (vs.map (conc ρ))).run P w = .ok () (w.setCells b off (vs.map (conc ρ))) := by
 have := run_storeCells_cells (P := P) b off (vs.map (conc ρ)) 0 w (fun j hj => by
   simp at hj
   simp [World.cell?, hb, show off + 0 + j < arr.size by omega]
   omega) (fun j hj => by
   simp at hj
   have := hu (off + j) (by omega) (by omega)
   simp [World.frozen?, hb]
   omega) (fun v hv => by
   simp only [List.mem_map] at hv
   obtain ⟨x, hx, rfl⟩ := hv
   exact flat_one ρ (List.all_eq_true.1 hf x hx))
 simpa using this
theorem BoxRel.write {b off : Nat} {cs vs l : List SV} (hb : BoxRel ρ H.size w b cs) (hs : splice cs off vs = some l) (hok : okL ρ H.size vs) (hf : vs.all SV.flat = true) :
  (storeCells ⟨b, off, none⟩ (vs.map (conc ρ))).run P w = .ok () (w.setCells b off (vs.map (conc ρ))) /\ BoxRel ρ H.size (w.setCells b off (vs.map (conc ρ))) b l := by
 obtain ⟨arr, E, mk, h1, h2, h3, h4⟩ := hb.blk
 obtain ⟨s1, s2, s3⟩ := splice_get hs
 refine ⟨run_write h1 (by omega) (fun j hj1 hj2 => h4 j (by omega) (by omega)) hf, ?_⟩
 obtain ⟨arr', k1, k2, k3, k4, k5⟩ := setCells_heap_eq b (vs.map (conc ρ)) off w h1 (by simp; omega)
 refine ⟨⟨arr', E, mk, k1, by omega, fun j v hv => ?_, by rw [s1]; exact h4⟩, fun v hv => ?_⟩
 ·rcases s3 j v hv with ⟨hj, hv⟩ | ⟨hj1, hj2, hv⟩ | ⟨hj, hv⟩
  ·rw [k3 j hj]; exact h3 j v hv
  ·have := k4 (j - off) (conc ρ v) (by simp [hv])
   rwa [show off + (j - off) = j by omega] at this
  ·rw [k5 j (by simpa using hj)]; exact h3 j v hv
 ·rcases splice_mem hs v hv with hv | hv
  ·exact hb.ok v hv
  ·exact ⟨(okL_iff _ _ _).1 hok v hv, List.all_eq_true.1 hf v hv⟩
theorem box_turned {u : Nat} {cs l : List SV} {w' : World} (hr : Rel P h cx ρ lam T H a w) (hu : T[u]? = some (.box cs)) (hbox : BoxRel ρ H.size w' (lam u) l) (hsame : Same w w') (hsz : w'.heap.size = w.heap.size)
  (hne : ∀ b, b ≠ lam u -> w'.heap[b]? = w.heap[b]?) : Rel P h cx ρ lam (setD T (some u) (.box l)) H a w' := by
 have hrow : ∀ r row, H.get r = some row -> row.kind ≠ 0 -> w'.heap[(ρ r).block]? = w.heap[(ρ r).block]? := fun r row hg hk => hne _ (hr.tmps.boxrow u cs hu r row hg hk)
 have hnew := hr.tmps.boxnew u cs hu
 refine ⟨hr.heap.world hsame (by omega) (fun b hb => hne b (by omega)) hrow, ?_⟩
 have key : ∀ (t : Nat) (cs' : List SV), (T.set u (SV.box l))[t]? = some (SV.box cs') -> (t = u /\ cs' = l) \/ (t ≠ u /\ T[t]? = some (SV.box cs')) := fun t cs' hx => by
  rcases getElem?_set_cases hx with ⟨e1, e2, _⟩ | ⟨e1, e2⟩
  ·cases e2; exact .inl ⟨e1, rfl⟩
  ·exact .inr ⟨e1, e2⟩
 have old : ∀ (t : Nat) (cs' : List SV), (T.set u (SV.box l))[t]? = some (SV.box cs') -> ∃ cs'', T[t]? = some (SV.box cs'') := fun t cs' hx => by
  rcases key t cs' hx with ⟨rfl, _⟩ | ⟨_, e⟩
  ·exact ⟨cs, hu⟩
  ·exact ⟨cs', e⟩
 simp only [setD]
 refine ⟨by simp [hr.tmps.len], fun t x hx => ?_, fun t cs' hx => ?_, fun t t' c c' hx hx' hne' => ?_, fun t cs' hx r row hg hk => ?_, fun t cs' hx => ?_, fun t cs' hx => ?_, hr.tmps.nodefer⟩
 ·rcases getElem?_set_cases hx with ⟨rfl, rfl, _⟩ | ⟨e1, e2⟩
  ·have := hr.tmps.slot t _ hu
   simp only [SlotRel] at this ⊢
   exact this
  ·exact hr.tmps.slot t x e2
 ·rcases key t cs' hx with ⟨rfl, rfl⟩ | ⟨e1, e2⟩
  ·exact hbox
  ·exact (hr.tmps.box t cs' e2).world (hne _ (hr.tmps.boxsep t u _ _ e2 hu e1))
 ·obtain ⟨d, hd⟩ := old t c hx
  obtain ⟨d', hd'⟩ := old t' c' hx'
  exact hr.tmps.boxsep t t' d d' hd hd' hne'
 ·obtain ⟨d, hd⟩ := old t cs' hx
  exact hr.tmps.boxrow t d hd r row hg hk
 ·obtain ⟨d, hd⟩ := old t cs' hx
  exact hr.tmps.boxloc t d hd
 ·obtain ⟨d, hd⟩ := old t cs' hx
  exact hr.tmps.boxnew t d hd
theorem run_storeAt {t : TypeId} {n : Nat} {v : Value} {vs : List SV} {b off : Nat} {w' : World} (hs : sizeT P t = some n) (hv : v.cells.toList = vs.map (conc ρ)) (hn : vs.length = n)
  (hst : (storeCells ⟨b, off, none⟩ (vs.map (conc ρ))).run P w = .ok () w') : (Instr.storeAt t (.pointer (some ⟨b, off, none⟩)) v).run P w = .ok () w' := by
 have hsz : v.cells.size = n := by rw [<- Array.length_toList, hv]; simpa using hn
 simp [Instr.storeAt, Instr.sureAddr, storeVar, run_sizeT hs, hsz, hv, hst]
theorem D_lstore {o : Oper} {t : TypeId} {u n : Nat} {v : Operand} {y : Opd} {l : List SV} (hop : o.op = .store t (.tmp u) v) (hd : o.dst = none) (hs : sizeT P t = some n) (hy : opd h v = some y) (hr : Rel P h cx ρ lam T H a w)
  (hz : opB (.store 0 n) [getT T u, y.ev T] = some l) : Does P h cx a w o (setD T (some u) (.box l)) H := by
 have hj : getT T u ≠ .junk := by intro e; rw [e] at hz; simp [opB] at hz
 obtain ⟨s1, s2⟩ := slot_of hr.tmps hj
 have ey := ev_opd hr.tmps hy
 generalize getT T u = su at *
 cases su <;> simp only [opB] at hz <;> (try cases hz)
 rename_i cs
 simp only [SlotRel] at s1
 cases hb : ((y.ev T).item && Nat.beq (y.ev T).cells.length n) with
 | false => simp [hb] at hz
 | true =>
  simp only [hb, cond_true] at hz
  simp only [Bool.and_eq_true] at hb
  obtain ⟨k1, k2, k3, k4⟩ := ey.item hb.1
  obtain ⟨w1, w2⟩ := (hr.tmps.box u cs s2).write (P := P) hz k1 k2
  have hm := setCells_meta (lam u) ((y.ev T).cells.map (conc ρ)) 0 w
  have := box_turned hr s2 w2 ⟨hm.1, hm.2.1, hm.2.2⟩ (setCells_size _ _ _ _) (fun b hb => setCells_heap_ne _ _ _ _ hb)
  refine ⟨Go.undef, _, ρ, lam, .inr ⟨?_, rfl⟩, by rw [hd]; exact this⟩
  have hst := run_storeAt (P := P) (w := w) hs k4 (Nat.eq_of_beq_eq_true hb.2) w1
  have eu : a.eval (.tmp u) = .pointer (some ⟨lam u, 0, none⟩) := s1
  simp [execOp, hop, eu, hst]
theorem D_lstorep {o : Oper} {t : TypeId} {u b n : Nat} {v : Operand} {y : Opd} {l : List SV} (hop : o.op = .store t (.tmp u) v) (hd : o.dst = none) (hder : h.derOf u = some b) (hs : sizeT P t = some n) (hy : opd h v = some y) (hr : Rel P h cx ρ lam T H a w)
  (hz : opB (.storep n) [getT T b, getT T u, y.ev T] = some l) : Does P h cx a w o (setD T (some b) (.box l)) H := by
 have hj : getT T u ≠ .junk := by intro e; rw [e] at hz; cases getT T b <;> simp [opB] at hz
 have hj' : getT T b ≠ .junk := by intro e; rw [e] at hz; simp [opB] at hz
 obtain ⟨s1, s2⟩ := slot_of hr.tmps hj
 obtain ⟨s3, s4⟩ := slot_of hr.tmps hj'
 have ey := ev_opd hr.tmps hy
 generalize getT T u = su at *
 generalize getT T b = sb at *
 cases sb <;> cases su <;> simp only [opB] at hz <;> (try cases hz)
 rename_i cs off
 simp only [SlotRel] at s1 s3
 obtain ⟨u', hu', e1⟩ := s1
 rw [hder] at hu'
 cases hu'
 cases hb : ((y.ev T).item && Nat.beq (y.ev T).cells.length n) with
 | false => simp [hb] at hz
 | true =>
  simp only [hb, cond_true] at hz
  simp only [Bool.and_eq_true] at hb
  obtain ⟨k1, k2, k3, k4⟩ := ey.item hb.1
  obtain ⟨w1, w2⟩ := (hr.tmps.box b cs s4).write (P := P) hz k1 k2
  have hm := setCells_meta (lam b) ((y.ev T).cells.map (conc ρ)) off w
  have := box_turned hr s4 w2 ⟨hm.1, hm.2.1, hm.2.2⟩ (setCells_size _ _ _ _) (fun b hb => setCells_heap_ne _ _ _ _ hb)
  refine ⟨Go.undef, _, ρ, lam, .inr ⟨?_, rfl⟩, by rw [hd]; exact this⟩
  have hst := run_storeAt (P := P) (w := w) hs k4 (Nat.eq_of_beq_eq_true hb.2) w1
  have eu : a.eval (.tmp u) = .pointer (some ⟨lam b, off, none⟩) := e1
  simp [execOp, hop, eu, hst]
theorem Does.lptr {o : Oper} {d u off : Nat} (hr : Rel P h cx ρ lam T H a w) (hd : o.dst = some d) (hder : h.derOf d = some u) (hrun : (execOp a.eval o).run P w = .ok (.value (.pointer (some ⟨lam u, off, none⟩))) w) :
  Does P h cx a w o (setD T o.dst (.lptr off)) H := by
 refine ⟨_, w, ρ, lam, .inl hrun, hr.heap, hr.tmps.put o.dst (by simp) fun t ht => ?_⟩
 rw [hd] at ht; cases ht
 exact ⟨u, hder, rfl⟩
theorem isDer_eq {o : Oper} {u : Nat} (hi : isDer h o u = true) : ∃ d, o.dst = some d /\ h.derOf d = some u := by
 unfold isDer at hi
 cases hd : o.dst with
 | none => simp [hd] at hi
 | some d =>
  simp only [hd] at hi
  cases hu : h.derOf d with
  | none => simp [hu] at hi
  | some b =>
   simp only [hu] at hi
   have := Nat.eq_of_beq_eq_true hi
   subst this
   exact ⟨d, rfl, hu⟩
theorem D_lfld {o : Oper} {s : TypeId} {fields : Array Field} {f u m : Nat} {fl : Field} (hop : o.op = .fieldAddr s (.tmp u) f) (ht : P.underlying s = some (.struct fields)) (hf : fields[f]? = some fl) (hs : sizeT P fl.type = some m) (hm : m ≠ 0)
  (hi : isDer h o u = true) (hr : Rel P h cx ρ lam T H a w) {z : SV} (hz : opP (.lfld fl.offset) [getT T u] = some z) : Does P h cx a w o (setD T o.dst z) H := by
 have hj : getT T u ≠ .junk := by intro e; rw [e] at hz; simp [opP] at hz
 obtain ⟨s1, s2⟩ := slot_of hr.tmps hj
 generalize getT T u = su at *
 cases su <;> simp [opP] at hz
 subst hz
 simp only [SlotRel] at s1
 obtain ⟨d, hd, hder⟩ := isDer_eq hi
 refine Does.lptr hr hd hder ?_
 simp [execOp, hop, Act.eval, s1, Instr.fieldAt, Instr.sureAddr, run_underlying ht, hf, run_fieldPlace hs hm, Addr.add_lit]
theorem D_lfldp {o : Oper} {s : TypeId} {fields : Array Field} {f u b m : Nat} {fl : Field} (hop : o.op = .fieldAddr s (.tmp u) f) (hdu : h.derOf u = some b) (ht : P.underlying s = some (.struct fields)) (hf : fields[f]? = some fl) (hs : sizeT P fl.type = some m) (hm : m ≠ 0)
  (hi : isDer h o b = true) (hr : Rel P h cx ρ lam T H a w) {z : SV} (hz : opP (.lfldp fl.offset) [getT T u] = some z) : Does P h cx a w o (setD T o.dst z) H := by
 have hj : getT T u ≠ .junk := by intro e; rw [e] at hz; simp [opP] at hz
 obtain ⟨s1, s2⟩ := slot_of hr.tmps hj
 generalize getT T u = su at *
 cases su <;> simp [opP] at hz
 subst hz
 simp only [SlotRel] at s1
 obtain ⟨u', hu', e1⟩ := s1
 rw [hdu] at hu'
 cases hu'
 obtain ⟨d, hd, hder⟩ := isDer_eq hi
 refine Does.lptr hr hd hder ?_
 simp [execOp, hop, Act.eval, e1, Instr.fieldAt, Instr.sureAddr, run_underlying ht, hf, run_fieldPlace hs hm, Addr.add_lit]
theorem D_lidx {o : Oper} {t e : TypeId} {len m u : Nat} {i : Operand} {i' : Opd} (hop : o.op = .indexAddr t (.tmp u) i) (ht : P.underlying t = some (.array len e)) (hs : sizeT P e = some m) (hx : opd h i = some i')
  (hi : isDer h o u = true) (hr : Rel P h cx ρ lam T H a w) {z : SV} (hz : opP (.lidx len m) [getT T u, i'.ev T] = some z) : Does P h cx a w o (setD T o.dst z) H := by
 have hj : getT T u ≠ .junk := by intro e; rw [e] at hz; simp [opP] at hz
 obtain ⟨s1, s2⟩ := slot_of hr.tmps hj
 have ei := ev_opd hr.tmps hx
 generalize getT T u = su at *
 generalize i'.ev T = si at *
 cases su <;> cases si <;> simp [opP] at hz
 rename_i cs k n
 obtain ⟨hn, rfl⟩ := hz
 have e2 := ei.int_of
 simp only [SlotRel] at s1
 obtain ⟨d, hd, hder⟩ := isDer_eq hi
 refine Does.lptr hr hd hder ?_
 have eu : a.eval (.tmp u) = .pointer (some ⟨lam u, 0, none⟩) := s1
 simp [execOp, hop, eu, e2, Instr.indexAt, Instr.sureAddr, asIntOf, run_underlying ht, hn, run_sizeT hs, Addr.add_lit]
theorem D_lidxp {o : Oper} {t e : TypeId} {len m u b : Nat} {i : Operand} {i' : Opd} (hop : o.op = .indexAddr t (.tmp u) i) (hdu : h.derOf u = some b) (ht : P.underlying t = some (.array len e)) (hs : sizeT P e = some m) (hx : opd h i = some i')
  (hi : isDer h o b = true) (hr : Rel P h cx ρ lam T H a w) {z : SV} (hz : opP (.lidxp len m) [getT T u, i'.ev T] = some z) : Does P h cx a w o (setD T o.dst z) H := by
 have hj : getT T u ≠ .junk := by intro e; rw [e] at hz; simp [opP] at hz
 obtain ⟨s1, s2⟩ := slot_of hr.tmps hj
 have ei := ev_opd hr.tmps hx
 generalize getT T u = su at *
 generalize i'.ev T = si at *
 cases su <;> cases si <;> simp [opP] at hz
 rename_i off k n
 obtain ⟨hn, rfl⟩ := hz
 have e2 := ei.int_of
 simp only [SlotRel] at s1
 obtain ⟨u', hu', e1⟩ := s1
 rw [hdu] at hu'
 cases hu'
 obtain ⟨d, hd, hder⟩ := isDer_eq hi
 refine Does.lptr hr hd hder ?_
 have eu : a.eval (.tmp u) = .pointer (some ⟨lam b, off, none⟩) := e1
 simp [execOp, hop, eu, e2, Instr.indexAt, Instr.sureAddr, asIntOf, run_underlying ht, hn, run_sizeT hs, Addr.add_lit]
end
end Go.Sh
namespace Go.Sh
open Go
def upd (ρ : Place) (n : Nat) (l : Loc) : Place := fun i => if i = n then l else ρ i
theorem upd_old (ρ : Place) (n : Nat) (l : Loc) : ∀ i, i < n -> upd ρ n l i = ρ i := fun i hi => by simp [upd, Nat.ne_of_lt hi]
theorem upd_new (ρ : Place) (n : Nat) (l : Loc) : upd ρ n l n = l := by simp [upd]
section
variable {P : Program} {h : Hints} {cx : Ctx} {ρ : Place} {lam : Nat -> Nat} {T : Tmps} {H : Heap} {a : Act} {w : World}
theorem push_row (hr : Rel P h cx ρ lam T H a w) {w' : World} (hs : Same w w') (hsz : w.heap.size <= w'.heap.size) (l : Loc) (row : Row) (hk : row.kind = 2)
  (hold : ∀ b, b < w.heap.size -> b ≠ l.block -> w'.heap[b]? = w.heap[b]?) (hown : cx.own l.block \/ cx.w0.heap.size <= l.block)
  (hrows : ∀ r row', H.get r = some row' -> row'.kind ≠ 0 -> (ρ r).block ≠ l.block) (hboxes : ∀ t cs, T[t]? = some (.box cs) -> lam t ≠ l.block)
  (hrow : RowRel ρ H.size w' l row) : Rel P h cx (upd ρ H.size l) lam T (H.push row) a w' := by
 have hρ := upd_old ρ H.size l
 have hg : ∀ r row', (H.push row).get r = some row' -> (r = H.size /\ row' = row) \/ (r < H.size /\ H.get r = some row') := fun r row' hg => by
  by_cases e : r = H.size
  ·subst e; rw [Heap.get_push_self] at hg; cases hg; exact .inl ⟨rfl, rfl⟩
  ·rw [Heap.get_push_ne _ _ e] at hg; exact .inr ⟨Heap.get_lt hg, hg⟩
 refine ⟨⟨hs.os.trans hr.heap.os, hs.tape.trans hr.heap.tape, hs.output.trans hr.heap.output, Nat.le_trans hr.heap.size hsz, fun b hb hn => ?_, fun r row' hg' hk' => ?_, fun r row' hg' hk' => ?_, fun r r' row1 row2 hg1 hg2 hk1 hk2 hne => ?_, hr.heap.ext.push row hk, fun i hi => ?_⟩, ?_⟩
 ·rw [hold b (Nat.lt_of_lt_of_le hb hr.heap.size) (fun e => by
   rcases hown with h | h
   ·exact hn (e ▸ h)
   ·omega)]
  exact hr.heap.keep b hb hn
 ·rcases hg r row' hg' with ⟨rfl, rfl⟩ | ⟨h1, h2⟩
  ·rw [upd_new]; exact hrow.ext hρ (by simp [Heap.size_push])
  ·rw [hρ r h1]
   have := hr.heap.rows r row' h2 hk'
   exact (this.world (hold _ this.lt (hrows r row' h2 hk'))).ext hρ (by simp [Heap.size_push])
 ·rcases hg r row' hg' with ⟨rfl, rfl⟩ | ⟨h1, h2⟩
  ·rw [upd_new]; exact hown
  ·rw [hρ r h1]; exact hr.heap.own r row' h2 hk'
 ·rcases hg r row1 hg1 with ⟨rfl, rfl⟩ | ⟨h1, h2⟩
  ·rcases hg r' row2 hg2 with ⟨rfl, rfl⟩ | ⟨h3, h4⟩
   ·exact absurd rfl hne
   ·rw [upd_new, hρ r' h3]; exact (hrows r' row2 h4 hk2).symm
  ·rcases hg r' row2 hg2 with ⟨rfl, rfl⟩ | ⟨h3, h4⟩
   ·rw [upd_new, hρ r h1]; exact hrows r row1 h2 (by omega)
   ·rw [hρ r h1, hρ r' h3]; exact hr.heap.sep r r' row1 row2 h2 h4 hk1 hk2 hne
 ·rw [hρ i (Nat.lt_of_lt_of_le hi hr.heap.ext.size)]; exact hr.heap.old i hi
 ·refine hr.tmps.heap hρ (by simp [Heap.size_push]) (fun t cs ht => hold _ (hr.tmps.box t cs ht).lt (hboxes t cs ht)) (fun t cs ht r row' hg' hk' => ?_)
  rcases hg r row' hg' with ⟨rfl, rfl⟩ | ⟨h1, h2⟩
  ·rw [upd_new]; exact (hboxes t cs ht).symm
  ·rw [hρ r h1]; exact hr.tmps.boxrow t cs ht r row' h2 hk'
theorem push_new (hr : Rel P h cx ρ lam T H a w) {w' : World} (hs : Same w w') (hsz : w'.heap.size = w.heap.size + 1) {arr : Array Value} {E : TypeId} {mk : Nat × Nat} (hold : ∀ b, b < w.heap.size -> w'.heap[b]? = w.heap[b]?)
  (hnew : w'.heap[w.heap.size]? = some (.cells arr E mk)) (esz : Nat) (cs : List SV) (hl : cs.length <= arr.size) (hc : ∀ (j : Nat) (v : SV), cs[j]? = some v -> arr[j]? = some (conc ρ v)) (hok : okL ρ H.size cs) (hf : cs.all SV.flat = true)
  (hu : unfrozen mk 0 arr.size) : Rel P h cx (upd ρ H.size ⟨w.heap.size, 0, arr.size, esz⟩) lam T (H.push (newRow esz cs)) a w' := by
 refine push_row hr hs (by omega) ⟨w.heap.size, 0, arr.size, esz⟩ (newRow esz cs) rfl (fun b hb _ => hold b hb) (.inr hr.heap.size) (fun r row' hg hk => ?_) (fun t cs ht => ?_) ?_
 ·have := (hr.heap.rows r row' hg hk).lt; simp; omega
 ·have := (hr.tmps.box t cs ht).lt; simp; omega
 ·exact ⟨⟨arr, E, mk, hnew, by simp, fun j v hv => by simpa using hc j v hv, fun _ => by simpa using hu⟩, hl, fun v hv => ⟨(okL_iff _ _ _).1 hok v hv, List.all_eq_true.1 hf v hv⟩, rfl⟩
theorem kill_row (hr : Rel P h cx ρ lam T H a w) {r : Nat} {row : Row} (hg : H.get r = some row) : Rel P h cx ρ lam T (H.kill r row) a w := by
 have hgk : ∀ r' row', (H.kill r row).get r' = some row' -> row'.kind ≠ 0 -> r' ≠ r /\ H.get r' = some row' := fun r' row' hg' hk => by
  by_cases e : r = r'
  ·subst e
   rw [Heap.kill, Heap.get_set_self hg] at hg'
   cases hg'
   simp at hk
  ·rw [Heap.kill, Heap.get_set_ne _ e] at hg'
   exact ⟨Ne.symm e, hg'⟩
 refine ⟨⟨hr.heap.os, hr.heap.tape, hr.heap.output, hr.heap.size, hr.heap.keep, fun r' row' hg' hk => ?_, fun r' row' hg' hk => ?_, fun r1 r2 row1 row2 hg1 hg2 hk1 hk2 hne => ?_, hr.heap.ext.set hg _ (by simp) (by simp), hr.heap.old⟩, ?_⟩
 ·exact hr.heap.rows r' row' (hgk r' row' hg' hk).2 hk
 ·exact hr.heap.own r' row' (hgk r' row' hg' (by omega)).2 hk
 ·exact hr.heap.sep r1 r2 row1 row2 (hgk r1 row1 hg1 (by omega)).2 (hgk r2 row2 hg2 hk2).2 hk1 hk2 hne
 ·exact hr.tmps.heap (fun _ _ => rfl) (Nat.le_refl _) (fun _ _ _ => rfl) (fun t cs ht r' row' hg' hk => hr.tmps.boxrow t cs ht r' row' (hgk r' row' hg' hk).2 hk)
theorem write_row (hr : Rel P h cx ρ lam T H a w) {r o : Nat} {vs : List SV} {H' : Heap} (hw : H.write r o vs = some H') (hok : okL ρ H.size vs) (hf : vs.all SV.flat = true) :
  (storeCells ⟨(ρ r).block, (ρ r).off + o, none⟩ (vs.map (conc ρ))).run P w = .ok () (w.setCells (ρ r).block ((ρ r).off + o) (vs.map (conc ρ))) /\ 
   Rel P h cx ρ lam T H' a (w.setCells (ρ r).block ((ρ r).off + o) (vs.map (conc ρ))) := by
 unfold Heap.write at hw
 cases hg : H.get r with
 | none => simp [hg] at hw
 | some row =>
  simp only [hg] at hw
  cases hk : Nat.beq row.kind 2 with
  | false => simp [hk] at hw
  | true =>
   simp only [hk, cond_true, Option.map_eq_some_iff] at hw
   obtain ⟨l, hl, rfl⟩ := hw
   have hkind := Nat.eq_of_beq_eq_true hk
   have hrow := hr.heap.rows r row hg (by omega)
   obtain ⟨arr, E, mk, h1, h2, h3, h4⟩ := hrow.blk
   obtain ⟨s1, s2, s3⟩ := splice_get hl
   have hfit := hrow.fits
   have hlen : (ρ r).off + o + (vs.map (conc ρ)).length <= arr.size := by simp; omega
   refine ⟨run_write h1 (by omega) (fun j hj1 hj2 => h4 hkind j (by omega) (by omega)) hf, ?_⟩
   obtain ⟨arr', k1, k2, k3, k4, k5⟩ := setCells_heap_eq (ρ r).block (vs.map (conc ρ)) ((ρ r).off + o) w h1 hlen
   have hm := setCells_meta (ρ r).block (vs.map (conc ρ)) ((ρ r).off + o) w
   have hsz := setCells_size (ρ r).block (vs.map (conc ρ)) ((ρ r).off + o) w
   have hne : ∀ b, b ≠ (ρ r).block -> (w.setCells (ρ r).block ((ρ r).off + o) (vs.map (conc ρ))).heap[b]? = w.heap[b]? := fun b hb => setCells_heap_ne _ _ _ _ hb
   have hgs : ∀ r' row', (H.set r { row with ver := row.ver + 1, cells := l }).get r' = some row' -> (r' = r /\ row' = { row with ver := row.ver + 1, cells := l }) \/ (r' ≠ r /\ H.get r' = some row') := fun r' row' hg' => by
    by_cases e : r = r'
    ·subst e
     rw [Heap.get_set_self hg] at hg'
     cases hg'
     exact .inl ⟨rfl, rfl⟩
    ·rw [Heap.get_set_ne _ e] at hg'
     exact .inr ⟨Ne.symm e, hg'⟩
   refine ⟨⟨hm.1.trans hr.heap.os, hm.2.1.trans hr.heap.tape, hm.2.2.trans hr.heap.output, by rw [hsz]; exact hr.heap.size, fun b hb hn => ?_, fun r' row' hg' hk' => ?_, fun r' row' hg' hk' => ?_, fun r1 r2 row1 row2 hg1 hg2 hk1 hk2 hne' => ?_,
    hr.heap.ext.set hg _ (by simp) (fun _ => rfl), hr.heap.old⟩, ?_⟩
   ·rw [hne b (fun e => by
     rcases hr.heap.own r row hg hkind with h | h
     ·exact hn (e ▸ h)
     ·omega)]
    exact hr.heap.keep b hb hn
   ·rcases hgs r' row' hg' with ⟨rfl, rfl⟩ | ⟨e1, e2⟩
    ·refine ⟨⟨arr', E, mk, k1, by omega, fun j v hv => ?_, fun _ => h4 hkind⟩, by simp only []; omega, fun v hv => ?_, hrow.esz⟩
     ·rcases s3 j v hv with ⟨hj, hv⟩ | ⟨hj1, hj2, hv⟩ | ⟨hj, hv⟩
      ·rw [k3 _ (by omega)]; exact h3 j v hv
      ·have := k4 (j - o) (conc ρ v) (by simp [hv])
       rwa [show (ρ r').off + o + (j - o) = (ρ r').off + j by omega] at this
      ·rw [k5 _ (by simp; omega)]; exact h3 j v hv
     ·rcases splice_mem hl v hv with hv | hv
      ·exact hrow.ok v hv
      ·exact ⟨(okL_iff _ _ _).1 hok v hv, List.all_eq_true.1 hf v hv⟩
    ·exact (hr.heap.rows r' row' e2 hk').world (hne _ (hr.heap.sep r r' row row' hg e2 hkind hk' (Ne.symm e1)).symm)
   ·rcases hgs r' row' hg' with ⟨rfl, rfl⟩ | ⟨e1, e2⟩
    ·exact hr.heap.own r' row hg hkind
    ·exact hr.heap.own r' row' e2 hk'
   ·have lift : ∀ r' row', (H.set r { row with ver := row.ver + 1, cells := l }).get r' = some row' -> ∃ row'', H.get r' = some row'' /\ row''.kind = row'.kind := fun r' row' hg' => by
     rcases hgs r' row' hg' with ⟨rfl, rfl⟩ | ⟨e1, e2⟩
     ·exact ⟨row, hg, rfl⟩
     ·exact ⟨row', e2, rfl⟩
    obtain ⟨x1, y1, z1⟩ := lift r1 row1 hg1
    obtain ⟨x2, y2, z2⟩ := lift r2 row2 hg2
    exact hr.heap.sep r1 r2 x1 x2 y1 y2 (by omega) (by omega) hne'
   ·refine hr.tmps.heap (fun _ _ => rfl) (Nat.le_refl _) (fun t cs ht => hne _ (fun e => hr.tmps.boxrow t cs ht r row hg (by omega) e.symm)) (fun t cs ht r' row' hg' hk' => ?_)
    rcases hgs r' row' hg' with ⟨rfl, rfl⟩ | ⟨e1, e2⟩
    ·exact hr.tmps.boxrow t cs ht r' row hg (by omega)
    ·exact hr.tmps.boxrow t cs ht r' row' e2 hk'
theorem Does.heap {o : Oper} {ρ' : Place} {w' : World} {H' : Heap} {y : SV} {v : Value} (hrun : (execOp a.eval o).run P w = .ok (.value v) w') (hr : Rel P h cx ρ' lam T H' a w') (hv : VR ρ' H'.size y v) :
  Does P h cx a w o (setD T o.dst y) H' := ⟨v, w', ρ', lam, .inl hrun, hr.heap, hr.tmps.put_vr o.dst hv⟩
theorem E_store {o : Oper} {t : TypeId} {x v : Operand} {n : Nat} {sx : SV} {y : Opd} {z : SV} {H' : Heap} (hop : o.op = .store t x v) (hd : o.dst = none) (hs : sizeT P t = some n) (ex : VR ρ H.size sx (a.eval x)) (hy : opd h v = some y)
  (hr : Rel P h cx ρ lam T H a w) (hz : opE (.store n) [sx, y.ev T] H = some (z, H')) : Does P h cx a w o T H' := by
 have ey := ev_opd hr.tmps hy
 cases sx <;> simp only [opE] at hz <;> (try cases hz)
 rename_i p
 cases hb : ((y.ev T).item && Nat.beq (y.ev T).cells.length n) with
 | false => simp [hb] at hz
 | true =>
  simp only [hb, cond_true, Option.map_eq_some_iff] at hz
  obtain ⟨H1, hw, he⟩ := hz
  cases he
  simp only [Bool.and_eq_true] at hb
  obtain ⟨o1, e1⟩ := ex.ne (by simp)
  obtain ⟨k1, k2, k3, k4⟩ := ey.item hb.1
  obtain ⟨w1, w2⟩ := write_row hr hw k1 k2
  refine ⟨Go.undef, _, ρ, lam, .inr ⟨?_, rfl⟩, by rw [hd]; exact w2⟩
  have hst := run_storeAt (P := P) (w := w) hs k4 (Nat.eq_of_beq_eq_true hb.2) w1
  simp [execOp, hop, e1, conc, addrOf, hst]
theorem E_alloc {o : Oper} {t : TypeId} {z : List SV} (hop : o.op = .alloc t) (hz : zeroOf P t = some z) (hr : Rel P h cx ρ lam T H a w) :
  Does P h cx a w o (setD T o.dst (.ptr (H.size, 0))) (H.push (newRow 1 z)) := by
 simp only [zeroOf, Option.bind_eq_some_iff] at hz
 obtain ⟨z', hz, n, hn, he⟩ := hz
 split at he <;> simp at he
 subst he
 obtain ⟨v, hv, hc, okz, fz, _⟩ := zeroT_ok (P := P) (w := w) (ρ := ρ) H.size hz
 have hrun : (execOp a.eval o).run P w = .ok (.value (.pointer (some ⟨w.heap.size, 0, none⟩))) (w.alloc (.cells v.cells t)) := by
  simp [execOp, hop, Instr.alloc, hv, newVar, Go.newRow]
 have := push_new hr (w' := w.alloc (.cells v.cells t)) ⟨rfl, rfl, rfl⟩ (by simp) (fun b hb => heap_alloc_old w _ b hb) (heap_alloc_new w _) 1 z' (by rw [hc]; simp) (fun j x hx => by rw [hc]; simp [hx]) okz fz (unfrozen_zero _ _)
 exact Does.heap hrun this (.inr ⟨by simp [okSV, Heap.size_push], by simp [conc, addrOf, upd_new]⟩)
theorem E_box {o : Oper} {t : TypeId} {x : Operand} {sx z : SV} {H' : Heap} (hop : o.op = .box t x) (ex : VR ρ H.size sx (a.eval x)) (hr : Rel P h cx ρ lam T H a w) (hz : opE .box [sx] H = some (z, H')) :
  Does P h cx a w o (setD T o.dst z) H' := by
 simp only [opE] at hz
 cases hi : sx.item with
 | false => simp [hi] at hz
 | true =>
  simp [hi] at hz
  obtain ⟨rfl, rfl⟩ := hz
  obtain ⟨k1, k2, k3, k4⟩ := ex.item hi
  have hc : (a.eval x).cells = (sx.cells.map (conc ρ)).toArray := by rw [<- k4]
  have hrun : (execOp a.eval o).run P w = .ok (.value (.pointer (some ⟨w.heap.size, 0, none⟩))) (w.alloc (.cells (a.eval x).cells t)) := by
   simp [execOp, hop, Instr.box, newVar, Go.newRow]
  have := push_new hr (w' := w.alloc (.cells (a.eval x).cells t)) ⟨rfl, rfl, rfl⟩ (by simp) (fun b hb => heap_alloc_old w _ b hb) (heap_alloc_new w _) 1 sx.cells (by rw [hc]; simp) (fun j x hx => by rw [hc]; simp [hx]) k1 k2 (unfrozen_zero _ _)
  exact Does.heap hrun this (.inr ⟨by simp [okSV, Heap.size_push], by simp [conc, addrOf, upd_new]⟩)
theorem repeatL_get {z : List SV} (hz : 0 < z.length) : ∀ (n j : Nat), j < n * z.length -> (repeatL n z)[j]? = z[j % z.length]?
 | 0, j, hj => by simp at hj
 | n + 1, j, hj => by
  have : repeatL (n + 1) z = z ++ repeatL n z := by simp [repeatL, List.replicate_succ]
  rw [this, List.getElem?_append]
  split
  ·rename_i h; rw [Nat.mod_eq_of_lt h]
  ·rename_i h
   rw [Nat.add_mul, Nat.one_mul] at hj
   rw [repeatL_get hz n (j - z.length) (by omega)]
   rw [Nat.mod_eq_sub_mod (by omega : j >= z.length)]
theorem repeatL_length (n : Nat) (z : List SV) : (repeatL n z).length = n * z.length := by
 simp [repeatL]
theorem repeatL_mem {n : Nat} {z : List SV} : ∀ v ∈ repeatL n z, v ∈ z := by
 intro v hv
 simp only [repeatL, List.mem_flatten, List.mem_replicate] at hv
 obtain ⟨l, ⟨_, rfl⟩, h⟩ := hv
 exact h
theorem made_eq {z : List SV} {zero : Array Value} (hz : zero = (z.map (conc ρ)).toArray) (hl : 0 < z.length) (n : Nat) :
  (Array.range (n * z.length)).map (zero[· % zero.size]!) = ((repeatL n z).map (conc ρ)).toArray := by
 subst hz
 apply Array.ext'
 apply List.ext_getElem?
 intro j
 simp only [Array.toList_map, Array.toList_range, List.getElem?_map]
 by_cases hj : j < n * z.length
 ·rw [repeatL_get hl n j hj]
  have hm : j % z.length < z.length := Nat.mod_lt _ hl
  simp [hj, List.getElem?_eq_getElem hm]
 ·rw [List.getElem?_eq_none (by simpa using hj), List.getElem?_eq_none (by rw [repeatL_length]; omega)]
  rfl
theorem E_make {o : Oper} {t e : TypeId} {l c : Operand} {l' c' : Opd} {by_ : Nat} {z : List SV} {y : SV} {H' : Heap} (hop : o.op = .makeSlice t l c) (ht : P.underlying t = some (.slice e)) (hz0 : zeroOf P e = some z) (hb : bytesT P e = some by_)
  (hl : opd h l = some l') (hc : opd h c = some c') (hr : Rel P h cx ρ lam T H a w) (hz : opE (.make z.length by_ z) [l'.ev T, c'.ev T] H = some (y, H')) : Does P h cx a w o (setD T o.dst y) H' := by
 have el := ev_opd hr.tmps hl
 have ec := ev_opd hr.tmps hc
 generalize l'.ev T = sl at *
 generalize c'.ev T = sc at *
 cases sl <;> cases sc <;> simp only [opE] at hz <;> (try cases hz)
 rename_i k1 n1 k2 n2
 split at hz
 rotate_left
 ·cases hz
 rename_i hcnd
 obtain ⟨h0, h1, h2, h3, h4⟩ := hcnd
 simp only [Option.some.injEq, Prod.mk.injEq] at hz
 obtain ⟨rfl, rfl⟩ := hz
 have e1 := el.int_of
 have e2 := ec.int_of
 simp only [zeroOf, Option.bind_eq_some_iff] at hz0
 obtain ⟨z', hz0, n, hn, he⟩ := hz0
 split at he <;> simp at he
 subst he
 rename_i hzl
 obtain ⟨v, hv, hcv, okz, fz, i, hi, hiz⟩ := zeroT_ok (P := P) (w := w) (ρ := ρ) H.size hz0
 have hsz : i.size = z'.length := by
  simp only [sizeT, hi, Option.map_some, Option.some.injEq] at hn; omega
 have hby : i.bytes = by_ := by simpa [bytesT, hi] using hb
 have hroom : (4 * n2.toNat + 4096) * (by_ + 1) <= 70368744177664 := by rw [roomy, Nat.ble_eq] at h3; exact h3
 have hbytes : (i.bytes : Int) * n2 <= 281474976710656 := by
  have e : (n2.toNat : Int) = n2 := Int.toNat_of_nonneg (by omega)
  have : by_ * n2.toNat <= 70368744177664 := by
   have h5 : n2.toNat * by_ <= (4 * n2.toNat + 4096) * (by_ + 1) := Nat.le_trans (Nat.mul_le_mul_left _ (Nat.le_succ _)) (Nat.mul_le_mul_right _ (by omega))
   rw [Nat.mul_comm]; exact Nat.le_trans h5 hroom
  clear hroom
  rw [hby, <- e]
  have h6 : ((by_ * n2.toNat : Nat) : Int) <= ((70368744177664 : Nat) : Int) := Int.ofNat_le.2 this
  rw [Int.natCast_mul] at h6
  omega
 have hrun := run_make (P := P) w t e i v ht hi hiz k1 k2 n1 n2 h0 h1 hbytes (by omega)
 have harr : madeCells v.cells (n2.toNat * i.size) = ((repeatL n2.toNat z').map (conc ρ)).toArray := by
  rw [madeCells, hsz]; exact made_eq hcv h4 n2.toNat
 have hlen : ((repeatL n2.toNat z').map (conc ρ)).toArray.size = n2.toNat * z'.length := by simp [repeatL_length]
 have := push_new hr (w' := w.alloc (.cells (madeCells v.cells (n2.toNat * i.size)) e)) ⟨rfl, rfl, rfl⟩ (by simp) (fun b hb => heap_alloc_old w _ b hb) (heap_alloc_new w _) z'.length (repeatL n2.toNat z') (by rw [harr]; simp) (fun j x hx => by rw [harr]; simp [hx])
  ((okL_iff _ _ _).2 fun v hv => (okL_iff _ _ _).1 okz v (repeatL_mem v hv)) (List.all_eq_true.2 fun v hv => List.all_eq_true.1 fz v (repeatL_mem v hv)) (unfrozen_zero _ _)
 have hcap : capC (upd ρ H.size ⟨w.heap.size, 0, (madeCells v.cells (n2.toNat * i.size)).size, z'.length⟩) ⟨some (H.size, 0), n1.toNat, none, 0⟩ = n2.toNat := by
  simp only [capC, upd_new, Nat.sub_zero]
  rw [harr, hlen]
  exact Nat.mul_div_cancel _ h4
 refine Does.heap (v := .slice (some ⟨w.heap.size, 0, none⟩) n1.toNat n2.toNat) (by simp [execOp, hop, e1, e2, hrun]) this (.inr ⟨?_, ?_⟩)
 ·simp only [okSV]
  exact ⟨fun p hp => by simp at hp; subst hp; simp [Heap.size_push], by rw [hcap]; omega⟩
 ·simp only [conc, hcap]
  simp [baseC, addrOf, upd_new]
end
end Go.Sh

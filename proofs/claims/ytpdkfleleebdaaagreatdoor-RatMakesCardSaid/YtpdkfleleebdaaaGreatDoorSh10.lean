/- How the relation is carried on. -/
import Derived.Test.YtpdkfleleebdaaaGreatDoorSh9
set_option linter.unusedVariables false
set_option linter.unusedSimpArgs false
namespace Go.Sh
open Go
theorem flat_one {v : SV} (ρ : Place) (h : v.flat = true) : (conc ρ v).oneCell' = true := by
 cases v <;> simp_all [SV.flat, conc, Value.oneCell']
theorem setCell_heap_ne (w : World) (a : Addr) (v : Value) {b : Nat} (h : b ≠ a.block) : (w.setCell a v).heap[b]? = w.heap[b]? := by
 simp [World.setCell, Array.getElem?_modify, Ne.symm h]
theorem setCell_heap_eq (w : World) (b o : Nat) (v : Value) {arr : Array Value} {E : TypeId} {mk : Nat × Nat} (h : w.heap[b]? = some (.cells arr E mk)) :
  (w.setCell ⟨b, o, none⟩ v).heap[b]? = some (.cells (arr.setIfInBounds o v) E mk) := by
 simp [World.setCell, Array.getElem?_modify, h]
theorem setCells_heap_ne (b : Nat) : ∀ (vs : List Value) (o : Nat) (w : World) {b' : Nat}, b' ≠ b -> (w.setCells b o vs).heap[b']? = w.heap[b']?
 | [], _, _, _, _ => rfl
 | v :: vs, o, w, b', h => by rw [World.setCells, setCells_heap_ne b vs (o + 1) _ h, setCell_heap_ne w _ v (by simpa using h)]
theorem setCells_size (b : Nat) : ∀ (vs : List Value) (o : Nat) (w : World), (w.setCells b o vs).heap.size = w.heap.size
 | [], _, _ => rfl
 | v :: vs, o, w => by rw [World.setCells, setCells_size b vs (o + 1)]; simp
theorem setCells_meta (b : Nat) : ∀ (vs : List Value) (o : Nat) (w : World), (w.setCells b o vs).os = w.os /\ (w.setCells b o vs).tape = w.tape /\ (w.setCells b o vs).output = w.output
 | [], _, _ => ⟨rfl, rfl, rfl⟩
 | v :: vs, o, w => by
  rw [World.setCells]
  obtain ⟨h1, h2, h3⟩ := setCells_meta b vs (o + 1) (w.setCell ⟨b, o, none⟩ v)
  exact ⟨h1, h2, h3⟩
theorem setCells_heap_eq (b : Nat) : ∀ (vs : List Value) (o : Nat) (w : World) {arr : Array Value} {E : TypeId} {mk : Nat × Nat}, w.heap[b]? = some (.cells arr E mk) -> o + vs.length <= arr.size ->
  ∃ arr', (w.setCells b o vs).heap[b]? = some (.cells arr' E mk) /\ arr'.size = arr.size /\ (∀ j, j < o -> arr'[j]? = arr[j]?) /\ (∀ (j : Nat) (v : Value), vs[j]? = some v -> arr'[o + j]? = some v) /\ (∀ j, o + vs.length <= j -> arr'[j]? = arr[j]?)
 | [], o, w, arr, E, mk, h, _ => ⟨arr, h, rfl, fun _ _ => rfl, fun _ _ h => by simp at h, fun _ _ => rfl⟩
 | v :: vs, o, w, arr, E, mk, h, hl => by
  simp only [List.length_cons] at hl
  obtain ⟨arr', h1, h2, h3, h4, h5⟩ := setCells_heap_eq b vs (o + 1) (w.setCell ⟨b, o, none⟩ v) (setCell_heap_eq w b o v h) (by simp; omega)
  refine ⟨arr', by rw [World.setCells]; exact h1, by simpa using h2, fun j hj => ?_, fun j u hu => ?_, fun j hj => ?_⟩
  ·rw [h3 j (by omega), Array.getElem?_setIfInBounds]
   simp; omega
  ·cases j with
   | zero =>
    simp at hu; subst hu
    rw [Nat.add_zero, h3 o (by omega), Array.getElem?_setIfInBounds]
    simp; omega
   | succ j =>
    have := h4 j u (by simpa using hu)
    rwa [show o + (j + 1) = o + 1 + j by omega]
  ·simp only [List.length_cons] at hj
   rw [h5 j (by omega), Array.getElem?_setIfInBounds]
   simp; omega
structure Same (w w' : World) : Prop where
 os : w'.os = w.os
 tape : w'.tape = w.tape
 output : w'.output = w.output
section
variable {P : Program} {h : Hints} {cx : Ctx} {ρ : Place} {lam : Nat -> Nat} {T : Tmps} {H : Heap} {a : Act} {w : World}
theorem RowRel.lt {n : Nat} {l : Loc} {row : Row} (hr : RowRel ρ n w l row) : l.block < w.heap.size := by
 obtain ⟨arr, E, mk, hb, _⟩ := hr.blk
 exact (Array.getElem?_eq_some_iff.1 hb).1
theorem BoxRel.lt {n b : Nat} {cs : List SV} (hb : BoxRel ρ n w b cs) : b < w.heap.size := by
 obtain ⟨arr, E, mk, hb, _⟩ := hb.blk
 exact (Array.getElem?_eq_some_iff.1 hb).1
theorem RowRel.world {n : Nat} {l : Loc} {row : Row} {w' : World} (hr : RowRel ρ n w l row) (hb : w'.heap[l.block]? = w.heap[l.block]?) : RowRel ρ n w' l row :=
 ⟨by rw [hb]; exact hr.blk, hr.fits, hr.ok, hr.esz⟩
theorem BoxRel.world {n b : Nat} {cs : List SV} {w' : World} (hr : BoxRel ρ n w b cs) (hb : w'.heap[b]? = w.heap[b]?) : BoxRel ρ n w' b cs :=
 ⟨by rw [hb]; exact hr.blk, hr.ok⟩
theorem RowRel.ext {n m : Nat} {l : Loc} {row : Row} {ρ' : Place} (hr : RowRel ρ n w l row) (hρ : ∀ i, i < n -> ρ' i = ρ i) (hm : n <= m) : RowRel ρ' m w l row := by
 obtain ⟨arr, E, mk, h1, h2, h3, h4⟩ := hr.blk
 refine ⟨⟨arr, E, mk, h1, h2, fun j v hv => ?_, h4⟩, hr.fits, fun v hv => ⟨okSV.ext hρ hm v (hr.ok v hv).1, (hr.ok v hv).2⟩, hr.esz⟩
 rw [conc_congr hρ v (hr.ok v (List.mem_of_getElem? hv)).1]
 exact h3 j v hv
theorem BoxRel.ext {n m b : Nat} {cs : List SV} {ρ' : Place} (hr : BoxRel ρ n w b cs) (hρ : ∀ i, i < n -> ρ' i = ρ i) (hm : n <= m) : BoxRel ρ' m w b cs := by
 obtain ⟨arr, E, mk, h1, h2, h3, h4⟩ := hr.blk
 refine ⟨⟨arr, E, mk, h1, h2, fun j v hv => ?_, h4⟩, fun v hv => ⟨okSV.ext hρ hm v (hr.ok v hv).1, (hr.ok v hv).2⟩⟩
 rw [conc_congr hρ v (hr.ok v (List.mem_of_getElem? hv)).1]
 exact h3 j v hv
theorem SlotRel.ext {n m t : Nat} {sv : SV} {v : Value} {der : Nat -> Option Nat} {ρ' : Place} (hs : SlotRel ρ lam der n t sv v) (hρ : ∀ i, i < n -> ρ' i = ρ i) (hm : n <= m) : SlotRel ρ' lam der m t sv v := by
 cases sv <;> simp only [SlotRel] at hs ⊢ <;> first
  | exact hs
  | exact ⟨okSV.ext hρ hm _ hs.1, by rw [conc_congr hρ _ hs.1]; exact hs.2⟩
theorem HRel.world {w' : World} (hr : HRel cx ρ H w) (hs : Same w w') (hsz : w.heap.size <= w'.heap.size)
  (hold : ∀ b, b < cx.w0.heap.size -> w'.heap[b]? = w.heap[b]?) (hrow : ∀ r row, H.get r = some row -> row.kind ≠ 0 -> w'.heap[(ρ r).block]? = w.heap[(ρ r).block]?) : HRel cx ρ H w' :=
 ⟨hs.os.trans hr.os, hs.tape.trans hr.tape, hs.output.trans hr.output, Nat.le_trans hr.size hsz, fun b hb hn => (hold b hb).trans (hr.keep b hb hn),
  fun r row hg hk => (hr.rows r row hg hk).world (hrow r row hg hk), hr.own, hr.sep, hr.ext, hr.old⟩
theorem getElem?_set_cases {T : Tmps} {d t : Nat} {v x : SV} (h : (T.set d v)[t]? = some x) : (t = d /\ x = v /\ d < T.length) \/ (t ≠ d /\ T[t]? = some x) := by
 rw [List.getElem?_set] at h
 split at h
 ·rename_i e
  subst e
  split at h
  ·rename_i hl; cases h; exact .inl ⟨rfl, rfl, hl⟩
  ·cases h
 ·rename_i e
  exact .inr ⟨fun e' => e e'.symm, h⟩
theorem getD_put (a : Act) (d t : Nat) (v : Value) (h : t ≠ d) : (a.put (some d) v).tmps.getD t Go.undef = a.tmps.getD t Go.undef := by
 simp [Act.put, Array.getD_eq_getD_getElem?, Array.getElem?_setIfInBounds, Ne.symm h]
theorem getD_put_self (a : Act) (d : Nat) (v : Value) (h : d < a.tmps.size) : (a.put (some d) v).tmps.getD d Go.undef = v := by
 simp [Act.put, Array.getD_eq_getD_getElem?, Array.getElem?_setIfInBounds, h]
theorem TRel.clear1 (hr : TRel cx ρ lam h.isLoc h.derOf H w T a) (d : Nat) : TRel cx ρ lam h.isLoc h.derOf H w (T.set d .junk) a := by
 have key : ∀ (t : Nat) (x : SV), (T.set d SV.junk)[t]? = some x -> x = SV.junk \/ T[t]? = some x := fun t x hx => by
  rcases getElem?_set_cases hx with ⟨_, e, _⟩ | ⟨_, e⟩
  ·exact .inl e
  ·exact .inr e
 refine ⟨by simpa using hr.len, fun t v hv => ?_, fun t cs hv => ?_, fun t t' cs cs' hv hv' => ?_, fun t cs hv => ?_, fun t cs hv => ?_, fun t cs hv => ?_, hr.nodefer⟩
 ·rcases key t v hv with rfl | e
  ·trivial
  ·exact hr.slot t v e
 ·rcases key t _ hv with e | e
  ·cases e
  ·exact hr.box t cs e
 ·rcases key t _ hv with e | e
  ·cases e
  rcases key t' _ hv' with e' | e'
  ·cases e'
  exact hr.boxsep t t' cs cs' e e'
 ·rcases key t _ hv with e | e
  ·cases e
  ·exact hr.boxrow t cs e
 ·rcases key t _ hv with e | e
  ·cases e
  ·exact hr.boxloc t cs e
 ·rcases key t _ hv with e | e
  ·cases e
  ·exact hr.boxnew t cs e
theorem TRel.clear : ∀ (l : List Nat) {T : Tmps} (hr : TRel cx ρ lam h.isLoc h.derOf H w T a), TRel cx ρ lam h.isLoc h.derOf H w (clear T l) a
 | [], _, hr => hr
 | n :: l, _, hr => TRel.clear l (hr.clear1 n)
theorem TRel.put (hr : TRel cx ρ lam h.isLoc h.derOf H w T a) (d : Option Nat) {y : SV} {v : Value} (hb : ∀ cs, y ≠ .box cs) (hs : ∀ t, d = some t -> SlotRel ρ lam h.derOf H.size t y v) :
  TRel cx ρ lam h.isLoc h.derOf H w (setD T d y) (a.put d v) := by
 cases d with
 | none => simpa [setD, Act.put] using hr
 | some d =>
  have key : ∀ (t : Nat) (cs : List SV), (T.set d y)[t]? = some (SV.box cs) -> T[t]? = some (SV.box cs) := fun t cs hx => by
   rcases getElem?_set_cases hx with ⟨_, e, _⟩ | ⟨_, e⟩
   ·exact absurd e.symm (hb cs)
   ·exact e
  simp only [setD]
  refine ⟨by simp [Act.put, hr.len], fun t x hx => ?_, fun t cs hv => hr.box t cs (key t cs hv), fun t t' cs cs' hv hv' => hr.boxsep t t' cs cs' (key t cs hv) (key t' cs' hv'),
   fun t cs hv => hr.boxrow t cs (key t cs hv), fun t cs hv => hr.boxloc t cs (key t cs hv), fun t cs hv => hr.boxnew t cs (key t cs hv), hr.nodefer⟩
  rcases getElem?_set_cases hx with ⟨e1, e2, e3⟩ | ⟨e1, e2⟩
  ·subst e1; subst e2
   rw [getD_put_self a t v (by rw [<- hr.len]; exact e3)]
   exact hs t rfl
  ·rw [getD_put a d t v e1]
   exact hr.slot t x e2
theorem VR.slot {n t : Nat} {der : Nat -> Option Nat} {y : SV} {v : Value} (hv : VR ρ n y v) : (∀ cs, y ≠ .box cs) /\ SlotRel ρ lam der n t y v := by
 rcases hv with rfl | ⟨h1, rfl⟩
 ·exact ⟨by simp, trivial⟩
 ·cases y <;> simp_all [okSV, SlotRel]
theorem TRel.put_vr (hr : TRel cx ρ lam h.isLoc h.derOf H w T a) (d : Option Nat) {y : SV} {v : Value} (hv : VR ρ H.size y v) : TRel cx ρ lam h.isLoc h.derOf H w (setD T d y) (a.put d v) :=
 hr.put d (VR.slot (lam := lam) (t := 0) (der := h.derOf) hv).1 fun t _ => (VR.slot (lam := lam) (t := t) (der := h.derOf) hv).2
theorem TRel.heap {ρ' : Place} {H' : Heap} {w' : World} (hr : TRel cx ρ lam h.isLoc h.derOf H w T a) (hρ : ∀ i, i < H.size -> ρ' i = ρ i) (hm : H.size <= H'.size)
  (hbox : ∀ t cs, T[t]? = some (.box cs) -> w'.heap[lam t]? = w.heap[lam t]?)
  (hrow : ∀ t cs, T[t]? = some (.box cs) -> ∀ r row, H'.get r = some row -> row.kind ≠ 0 -> (ρ' r).block ≠ lam t) : TRel cx ρ' lam h.isLoc h.derOf H' w' T a :=
 ⟨hr.len, fun t v hv => (hr.slot t v hv).ext hρ hm, fun t cs hv => ((hr.box t cs hv).ext hρ hm).world (hbox t cs hv), hr.boxsep, hrow, hr.boxloc, hr.boxnew, hr.nodefer⟩
end
end Go.Sh

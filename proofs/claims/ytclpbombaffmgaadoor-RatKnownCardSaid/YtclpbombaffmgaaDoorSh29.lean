/- Statements with arguments: known answers first, over plain forms; arguments as rows that are only read. -/
import Derived.Test.YtclpbombaffmgaaDoorSh28
import Derived.ChangeSlices
import Derived.WideShapes
set_option linter.unusedVariables false
set_option linter.unusedSimpArgs false
namespace Go.Sh
open Go Go.RowKit

noncomputable def runQ (O : CallC) (T : BT Ent) (o : Ops) (K : Nat) (d : Nat) : CallC := Nat.rec (motive := fun _ => CallC) O (fun _ ih g xs H => match O g xs H with | some r => some r | none => T.getK g fun e => e o K ih xs H) d
theorem runQ_eq {O : CallC} {l : EL} (h : AllOk l) (K : Nat) : ∀ d, runO O (fun f => assoc (fnsOf l) f) K d = runQ O (tabOf l) slow K d
  | 0 => by funext g xs H; rfl
  | d + 1 => by
    have ih := runQ_eq (O := O) h K d
    funext g xs H
    show (match O g xs H with | some r => some r | none => match assoc (fnsOf l) g with | none => none | some fn => bif Nat.beq xs.length fn.nparams then runFn2 fn K (runO O (fun f => assoc (fnsOf l) f) K d) xs H else none) = (match O g xs H with | some r => some r | none => (tabOf l).getK g fun e => e slow K (runQ O (tabOf l) slow K d) xs H)
    cases O g xs H with
    | some r => rfl
    | none =>
      simp only
      rw [BT.getK_eq, ih]
      rcases tab_same h g with ⟨h1, h2⟩ | ⟨cf, e, h1, h2, h3⟩
      · rw [h1, h2]; rfl
      · rw [h1, h2]
        exact h3 K _ xs H
theorem Ends.of_plain {P : Program} {l : EL} (hl : AllOk l) {T : BT Ent} (hT : tabOf l = T) (hP : Comp P (fun f => assoc (fnsOf l) f)) (hw : ((fnsOf l).all fun p => p.2.within) = true) (hm : P.follows .mixedOrders = true) {K d f : Nat} (h : isTrue (runPF T fast K d f [] noRows) = true) : Ends P f (.bool true) :=
  Ends.of_run hP hw hm (by rw [runPF_eq hl, hT, ← fast_eq]; exact h)
/-- One closed call that is known. -/
theorem one_ok {P : Program} {f : Nat} (h : Ends P f (.bool true)) : CallOK P (closedO [(f, .bool true)]) ∧ ExtC (closedO [(f, .bool true)]) :=
  closedO_ok fun g v hg => by
    simp only [assoc] at hg
    cases hb : Nat.beq f g with
    | true =>
      rw [hb] at hg
      simp only [cond_true, Option.some.injEq] at hg
      rw [← Nat.eq_of_beq_eq_true hb, ← hg]
      exact h
    | false => rw [hb] at hg; cases hg

/-- A heap of rows that are only read. -/
structure Start (W : World) (H : Heap) (ρ : Place) : Prop where
  kinds : ∀ r row, H.get r = some row → row.kind = 0 ∨ row.kind = 1
  rows : ∀ r row, H.get r = some row → row.kind ≠ 0 → RowRel ρ H.size W (ρ r) row
theorem Start.none (W : World) (ρ : Place) : Start W noRows ρ :=
  ⟨fun r row h => absurd (Heap.get_lt h) (Nat.not_lt_zero _), fun r row h => absurd (Heap.get_lt h) (Nat.not_lt_zero _)⟩
theorem Start.hrel {W : World} {H : Heap} {ρ : Place} (h : Start W H ρ) : HRel ⟨W, H, ρ⟩ ρ H W where
  os := rfl
  tape := rfl
  output := rfl
  size := Nat.le_refl _
  keep := fun _ _ _ => rfl
  rows := h.rows
  own := fun r row hg hk => by rcases h.kinds r row hg with e | e <;> omega
  sep := fun r r' row row' hg _ hk _ _ => by rcases h.kinds r row hg with e | e <;> omega
  ext := HExt.refl H
  old := fun _ _ => rfl
theorem Start.readOnly {W : World} {H : Heap} {ρ : Place} (h : Start W H ρ) : ReadOnly H := fun r row hg => by rcases h.kinds r row hg with e | e <;> omega
/-- A place more. -/
def Place.put (ρ : Place) (n : Nat) (l : Loc) : Place := fun i => if i = n then l else ρ i
theorem Place.put_old {ρ : Place} {n : Nat} {l : Loc} : ∀ i, i < n → ρ.put n l i = ρ i := fun i hi => if_neg (by omega)
theorem Place.put_self {ρ : Place} {n : Nat} {l : Loc} : ρ.put n l n = l := if_pos rfl
theorem Start.push {W : World} {H : Heap} {ρ : Place} (h : Start W H ρ) (row : Row) (l : Loc) (hk : row.kind = 0 ∨ row.kind = 1) (hr : row.kind ≠ 0 → RowRel (ρ.put H.size l) (H.size + 1) W l row) : Start W (H.push row) (ρ.put H.size l) where
  kinds := fun r row' hg => by
    by_cases hrs : r = H.size
    · subst hrs; rw [Heap.get_push_self] at hg; cases hg; exact hk
    · rw [Heap.get_push_ne _ _ hrs] at hg; exact h.kinds r row' hg
  rows := fun r row' hg hk' => by
    by_cases hrs : r = H.size
    · subst hrs
      rw [Heap.get_push_self] at hg; cases hg
      rw [Place.put_self]
      exact hr hk'
    · rw [Heap.get_push_ne _ _ hrs] at hg
      have hlt := Heap.get_lt hg
      rw [Place.put_old r hlt]
      exact (h.rows r row' hg hk').ext (fun i hi => Place.put_old i hi) (Nat.le_succ _)
/-- A slice of numbers, as the model holds it. -/
def IsRow (k : IntKind) (w : World) (a : Option Addr) (len cap : Nat) (zs : List Int) : Prop :=
  (a = none ∧ len = 0 ∧ cap = 0 ∧ zs = []) ∨
  ∃ x, a = some x ∧ len ≤ cap ∧ zs.length = cap ∧ (∀ i, i < zs.length → w.cell? (x.add i) = some (.int k (zs.getD i 0))) ∧ x.spot = none
/-- What there is, and more. -/
structure More (H : Heap) (ρ : Place) (H' : Heap) (ρ' : Place) : Prop where
  fr : Frame H H'
  place : ∀ i, i < H.size → ρ' i = ρ i
theorem More.refl (H : Heap) (ρ : Place) : More H ρ H ρ := ⟨Fr.refl _ _, fun _ _ => rfl⟩
theorem More.trans {H H' H'' : Heap} {ρ ρ' ρ'' : Place} (h : More H ρ H' ρ') (h' : More H' ρ' H'' ρ'') : More H ρ H'' ρ'' :=
  ⟨Frame.trans h.fr h'.fr, fun i hi => (h'.place i (Nat.lt_of_lt_of_le hi h.fr.size)).trans (h.place i hi)⟩
theorem More.okSV {H H' : Heap} {ρ ρ' : Place} (h : More H ρ H' ρ') {v : SV} (hv : okSV ρ H.size v) : okSV ρ' H'.size v ∧ conc ρ' v = conc ρ v :=
  ⟨okSV.ext h.place h.fr.size v hv, conc_congr h.place v hv⟩
/-- A slice of which parts may be cut, whatever its row. -/
def Cutable (v : SV) : Prop := ∃ s, v = .slice s ∧ (s.cap.isSome = true ∨ s.base = .none)
theorem Start.push_row {W : World} {H : Heap} {ρ : Place} (h : Start W H ρ) {x : Addr} (hx : x.spot = .none) {len cap : Nat} (hlen : len ≤ cap) {cs : List SV} (hc : cs.length = cap) (hflat : ∀ v ∈ cs, okSV ρ H.size v ∧ v.flat = true) (hcell : ∀ i v, cs[i]? = some v → W.cell? (x.add i) = some (conc ρ v)) :
    ∃ H' ρ' sv, Start W H' ρ' ∧ More H ρ H' ρ' ∧ okSV ρ' H'.size sv ∧ conc ρ' sv = .slice (some x) len cap ∧ Arr H' sv (cs.take len) ∧ sv.flat = true ∧ Cutable sv := by
  let l : Loc := ⟨x.block, x.off, cap, 1⟩
  let row : Row := ⟨if cap = 0 then 0 else 1, 1, 0, cs⟩
  have hrow : row.kind ≠ 0 → RowRel (ρ.put H.size l) (H.size + 1) W l row := fun hk => by
    have hcap : cap ≠ 0 := fun e => hk (by show (if cap = 0 then 0 else 1) = 0; rw [if_pos e])
    obtain ⟨v0, hv0⟩ : ∃ v, cs[cap - 1]? = some v := ⟨_, List.getElem?_eq_getElem (by omega)⟩
    have hlast := hcell _ _ hv0
    have hadd : ∀ i, (x.add i).block = x.block ∧ (x.add i).off = x.off + i ∧ (x.add i).spot = .none := fun i => by
      unfold Addr.add
      split
      · rename_i e; subst e; exact ⟨rfl, rfl, hx⟩
      · exact ⟨rfl, rfl, rfl⟩
    unfold World.cell? at hlast
    rw [(hadd _).1, (hadd _).2.1, (hadd _).2.2] at hlast
    split at hlast
    · rename_i arr E mk hb
      simp only [Option.isSome_none, Bool.false_eq_true, if_false] at hlast
      have hlt := (Array.getElem?_eq_some_iff.1 hlast).1
      refine ⟨⟨arr, E, mk, hb, ?_, fun j v hj => ?_, fun e => ?_⟩, ?_, fun v hv => ?_, rfl⟩
      · show x.off + cap ≤ arr.size; omega
      · have hc' := hcell j v hj
        unfold World.cell? at hc'
        rw [(hadd _).1, (hadd _).2.1, (hadd _).2.2, hb] at hc'
        simp only [Option.isSome_none, Bool.false_eq_true, if_false] at hc'
        have hok := (hflat v (List.mem_of_getElem? hj)).1
        rw [conc_congr (fun i hi => Place.put_old i hi) v hok]
        exact hc'
      · exact absurd e (by show (if cap = 0 then 0 else 1) ≠ 2; split <;> omega)
      · show cs.length ≤ cap; omega
      · have := hflat v hv
        exact ⟨okSV.ext (fun i hi => Place.put_old i hi) (Nat.le_succ _) v this.1, this.2⟩
    · cases hlast
  have hk : row.kind = 0 ∨ row.kind = 1 := by
    show (if cap = 0 then 0 else 1) = 0 ∨ (if cap = 0 then 0 else 1) = 1
    split <;> simp
  refine ⟨H.push row, ρ.put H.size l, .slice ⟨some (H.size, 0), len, some cap, 0⟩, h.push row l hk hrow, ⟨Fr.push (Nat.le_refl _) _, fun i hi => Place.put_old i hi⟩, ?_, ?_, ?_, rfl, ⟨_, rfl, .inl rfl⟩⟩
  · simp only [Go.Sh.okSV, capC]
    exact ⟨fun p hp => by cases hp; rw [Heap.size_push]; exact Nat.lt_succ_self _, hlen⟩
  · simp only [conc, capC, Option.map_some, baseC, addrOf, ite_self, Place.put_self]
    cases x
    simp only at hx
    subst hx
    simp only [Nat.le_refl, if_true, ite_self]
    rfl
  · refine ⟨_, rfl, by simp; omega, ?_⟩
    by_cases h0 : cap = 0
    · left
      have : cs = [] := List.eq_nil_of_length_eq_zero (by omega)
      simp [this]
    · right
      refine ⟨H.size, 0, row, rfl, Heap.get_push_self _ _, by show (if cap = 0 then 0 else 1) ≠ 0; rw [if_neg h0]; omega, fun i v hi => ?_⟩
      rw [Nat.zero_add]
      rw [List.getElem?_take] at hi
      split at hi
      · exact hi
      · cases hi
/-- A slice of numbers is laid down. -/
theorem Start.ints {W : World} {H : Heap} {ρ : Place} (h : Start W H ρ) {k : IntKind} {a : Option Addr} {len cap : Nat} {zs : List Int} (hr : IsRow k W a len cap zs) :
    ∃ H' ρ' sv, Start W H' ρ' ∧ More H ρ H' ρ' ∧ Go.Sh.okSV ρ' H'.size sv ∧ conc ρ' sv = .slice a len cap ∧ Arr H' sv (intsL k (zs.take len)) ∧ sv.flat = true := by
  rcases hr with ⟨rfl, rfl, rfl, rfl⟩ | ⟨x, rfl, hl, hz, hcell, hsp⟩
  · exact ⟨H, ρ, .slice nilSl, h, More.refl _ _, by simp [Go.Sh.okSV, nilSl, capC], by simp [conc, nilSl, capC], by simpa using Arr.nil H, rfl⟩
  · obtain ⟨H', ρ', sv, h1, h2, h3, h4, h5, h6⟩ := h.push_row hsp hl (cs := intsL k zs) (by simpa using hz) (fun v hv => by
      obtain ⟨n, _, rfl⟩ := List.mem_map.1 hv
      exact ⟨by simp [Go.Sh.okSV], rfl⟩) (fun i v hi => by
      rw [List.getElem?_map, Option.map_eq_some_iff] at hi
      obtain ⟨n, hn, rfl⟩ := hi
      have := hcell i (List.getElem?_eq_some_iff.1 hn).1
      rw [this]
      simp [conc, List.getD, hn])
    exact ⟨H', ρ', sv, h1, h2, h3, h4, by simpa [intsL, List.map_take] using h5, h6.1⟩
/-- A row, wherever its address lies: at a spot only where the capacity is 0. -/
theorem Start.push_any {W : World} {H : Heap} {ρ : Place} (h : Start W H ρ) {x : Addr} {len cap : Nat} (hlen : len ≤ cap) {cs : List SV} (hc : cs.length = cap) (hflat : ∀ v ∈ cs, okSV ρ H.size v ∧ v.flat = true) (hcell : ∀ i v, cs[i]? = some v → W.cell? (x.add i) = some (conc ρ v)) :
    ∃ H' ρ' sv, Start W H' ρ' ∧ More H ρ H' ρ' ∧ okSV ρ' H'.size sv ∧ conc ρ' sv = .slice (some x) len cap ∧ Arr H' sv (cs.take len) ∧ sv.flat = true ∧ Cutable sv := by
  cases hs : x.spot with
  | none => exact h.push_row hs hlen hc hflat hcell
  | some k =>
    have h0 : cap = 0 := by
      apply Nat.eq_zero_of_not_pos
      intro hp
      obtain ⟨v0, hv0⟩ : ∃ v, cs[0]? = some v := ⟨_, List.getElem?_eq_getElem (by omega)⟩
      have h1 := World.cell?_spot (hcell 0 v0 hv0)
      have h2 : x.add 0 = x := by unfold Addr.add; rw [if_pos rfl]
      rw [h2, hs] at h1
      cases h1
    subst h0
    have hl0 : len = 0 := by omega
    subst hl0
    refine ⟨H.push ⟨0, 1, 0, []⟩, ρ.put H.size ⟨x.block, x.off, 0, 1⟩, .slice ⟨some (H.size, 0), 0, some 0, k + 1⟩, h.push _ _ (.inl rfl) (fun hk => absurd rfl hk), ⟨Fr.push (Nat.le_refl _) _, fun i hi => Place.put_old i hi⟩, ?_, ?_, ⟨_, rfl, by simp, .inl (by simp)⟩, rfl, ⟨_, rfl, .inl rfl⟩⟩
    · simp only [Go.Sh.okSV, capC]
      exact ⟨fun p hp => by cases hp; rw [Heap.size_push]; exact Nat.lt_succ_self _, Nat.le_refl _⟩
    · have hk : ¬ (k + 1 ≤ 0) := by omega
      simp only [conc, capC, Option.map_some, baseC, addrOf, Place.put_self, if_true, if_neg hk]
      cases x
      simp only at hs
      subst hs
      rfl
/-- A slice of numbers, as the model holds it, wherever. -/
def IsRowA (k : IntKind) (w : World) (a : Option Addr) (len cap : Nat) (zs : List Int) : Prop :=
  (a = none ∧ len = 0 ∧ cap = 0 ∧ zs = []) ∨
  ∃ x, a = some x ∧ len ≤ cap ∧ zs.length = cap ∧ (∀ i, i < zs.length → w.cell? (x.add i) = some (.int k (zs.getD i 0)))
theorem Start.intsA {W : World} {H : Heap} {ρ : Place} (h : Start W H ρ) {k : IntKind} {a : Option Addr} {len cap : Nat} {zs : List Int} (hr : IsRowA k W a len cap zs) :
    ∃ H' ρ' sv, Start W H' ρ' ∧ More H ρ H' ρ' ∧ Go.Sh.okSV ρ' H'.size sv ∧ conc ρ' sv = .slice a len cap ∧ Arr H' sv (intsL k (zs.take len)) ∧ sv.flat = true := by
  rcases hr with ⟨rfl, rfl, rfl, rfl⟩ | ⟨x, rfl, hl, hz, hcell⟩
  · exact ⟨H, ρ, .slice nilSl, h, More.refl _ _, by simp [Go.Sh.okSV, nilSl, capC], by simp [conc, nilSl, capC], by simpa using Arr.nil H, rfl⟩
  · obtain ⟨H', ρ', sv, h1, h2, h3, h4, h5, h6⟩ := h.push_any hl (x := x) (cs := intsL k zs) (by simpa using hz) (fun v hv => by
      obtain ⟨n, _, rfl⟩ := List.mem_map.1 hv
      exact ⟨by simp [Go.Sh.okSV], rfl⟩) (fun i v hi => by
      rw [List.getElem?_map, Option.map_eq_some_iff] at hi
      obtain ⟨n, hn, rfl⟩ := hi
      have := hcell i (List.getElem?_eq_some_iff.1 hn).1
      rw [this]
      simp [conc, List.getD, hn])
    exact ⟨H', ρ', sv, h1, h2, h3, h4, by simpa [intsL, List.map_take] using h5, h6.1⟩
/-- Rows of numbers are laid down, one behind the other. -/
theorem Start.rowsA {W : World} {k : IntKind} {A : Nat → Option Addr} {L C : Nat → Nat} {Z : Nat → List Int} : ∀ (cap : Nat) {H : Heap} {ρ : Place} (h : Start W H ρ) (hr : ∀ r, r < cap → IsRowA k W (A r) (L r) (C r) (Z r)),
    ∃ (H' : Heap) (ρ' : Place) (svs : List SV), Start W H' ρ' ∧ More H ρ H' ρ' ∧ svs.length = cap ∧ ∀ (r : Nat) sv, svs[r]? = some sv → Go.Sh.okSV ρ' H'.size sv ∧ conc ρ' sv = .slice (A r) (L r) (C r) ∧ Arr H' sv (intsL k ((Z r).take (L r))) ∧ sv.flat = true
  | 0, H, ρ, h, hr => ⟨H, ρ, [], h, More.refl _ _, rfl, fun r sv hs => by simp at hs⟩
  | cap + 1, H, ρ, h, hr => by
    obtain ⟨H1, ρ1, svs, s1, m1, l1, g1⟩ := Start.rowsA cap h (fun r hl => hr r (by omega))
    obtain ⟨H2, ρ2, sv, s2, m2, o2, c2, a2, f2⟩ := s1.intsA (hr cap (by omega))
    refine ⟨H2, ρ2, svs ++ [sv], s2, m1.trans m2, by simp [l1], fun r sv' hs => ?_⟩
    by_cases hq : r < svs.length
    · rw [List.getElem?_append_left hq] at hs
      obtain ⟨o, c, a, f⟩ := g1 r sv' hs
      obtain ⟨o', c'⟩ := m2.okSV o
      exact ⟨o', c'.trans c, a.fr m2.fr, f⟩
    · have hq2 : r = svs.length := by have := (List.getElem?_eq_some_iff.1 hs).1; simp at this; omega
      subst hq2
      simp at hs
      subst hs
      rw [l1]
      exact ⟨o2, c2, a2, f2⟩
/-- A slice of slices of numbers is laid down. -/
theorem Start.grid {W : World} {H : Heap} {ρ : Place} (h : Start W H ρ) {k : IntKind} {x : Addr} {len cap : Nat} {A : Nat → Option Addr} {L C : Nat → Nat} {Z : Nat → List Int} (hlen : len ≤ cap) (hr : ∀ r, r < cap → IsRowA k W (A r) (L r) (C r) (Z r)) (hcell : ∀ r, r < cap → W.cell? (x.add r) = some (.slice (A r) (L r) (C r))) :
    ∃ (H' : Heap) (ρ' : Place) (sv : SV) (ws : List SV), Start W H' ρ' ∧ More H ρ H' ρ' ∧ Go.Sh.okSV ρ' H'.size sv ∧ conc ρ' sv = .slice (some x) len cap ∧ Arr H' sv ws ∧ ws.length = len ∧ ∀ (r : Nat) w, ws[r]? = some w → Arr H' w (intsL k ((Z r).take (L r))) := by
  obtain ⟨H1, ρ1, svs, s1, m1, l1, g1⟩ := Start.rowsA cap h hr
  obtain ⟨H2, ρ2, sv, s2, m2, o2, c2, a2, _⟩ := s1.push_any hlen (x := x) l1 (fun v hv => by
    obtain ⟨r, hr⟩ := List.getElem?_of_mem hv
    exact ⟨(g1 r v hr).1, (g1 r v hr).2.2.2⟩) (fun i v hi => by
    rw [(g1 i v hi).2.1]
    exact hcell i (by have := (List.getElem?_eq_some_iff.1 hi).1; omega))
  refine ⟨H2, ρ2, sv, svs.take len, s2, m1.trans m2, o2, c2, a2, by simp; omega, fun r w hw => ?_⟩
  rw [List.getElem?_take] at hw
  split at hw
  · exact ((g1 r w hw).2.2.1).fr m2.fr
  · cases hw
theorem vrl_cons {ρ : Place} {n : Nat} {x : SV} {v : Value} {xs : List SV} {vs : List Value} (h : okSV ρ n x) (hv : conc ρ x = v) (ht : VRL ρ n xs vs) : VRL ρ n (x :: xs) (v :: vs) := ⟨.inr ⟨h, hv.symm⟩, ht⟩
theorem vrl_nil {ρ : Place} {n : Nat} : VRL ρ n [] [] := trivial
/-- A law's call, by what the plain forms come to. -/
theorem calls_law {P : Program} {O : CallC} {l : EL} (hO : CallOK P O ∧ ExtC O) (hl : AllOk l) {T : BT Ent} (hT : tabOf l = T) (hP : Comp P (fun f => assoc (fnsOf l) f)) (hw : ((fnsOf l).all fun p => p.2.within) = true) (hm : P.follows .mixedOrders = true) {K d f : Nat} {xs : List SV} {vs : List Value} {H H' : Heap} {w : World} {ρ : Place}
    (h : runQ O T slow K d f xs H = some (.bool true, H')) (hs : Start w H ρ) (hv : VRL ρ H.size xs vs) :
    Calls P f vs.toArray w fun e w' => e = .returned (.bool true) ∧ Below w.heap.size w w' :=
  calls_runO (fns := fun f => assoc (fnsOf l) f) hO hP (within_all hw) hm (by rw [runQ_eq hl, hT]; exact h) hs.hrel hs.readOnly hv
end Go.Sh

/- More operations that touch no memory. -/
import Derived.Test.YtpdkfleleebdaaaGreatDoorSh4
set_option linter.unusedVariables false
set_option linter.unusedSimpArgs false
namespace Go.Sh
open Go
section
variable {P : Program} {w : World} {ρ : Place} {n : Nat}
theorem run_isAgg {t : TypeId} {ag : Bool} (h : aggT P t = some ag) : (isAgg t).run P w = .ok ag w := by
 unfold aggT at h
 split at h <;> rename_i hu <;> (try simp at h) <;> (try subst h)
 ·simp [isAgg, run_underlying hu]
 ·simp [isAgg, run_underlying hu]
 ·rename_i d h1 h2
  simp only [isAgg, Sem.run_bind, run_underlying hu, Result.andThen_ok]
  rfl
theorem run_sizeT {t : TypeId} {m : Nat} (h : sizeT P t = some m) : (sizeOf t).run P w = .ok m w := by
 unfold sizeT at h
 simp only [Option.map_eq_some_iff] at h
 obtain ⟨i, hi, rfl⟩ := h
 simp [sizeOf, typeInfo, hi]
theorem cut_ok {cs l : List SV} {o m : Nat} (h : cut cs o m = some l) : o + m <= cs.length /\ l = (cs.drop o).take m := by
 unfold cut at h
 cases hb : Nat.ble (o + m) cs.length <;> simp [hb] at h
 exact ⟨Nat.le_of_ble_eq_true hb, h.symm⟩
theorem okL_sub {m : Nat} {cs l : List SV} (hs : ∀ v ∈ l, v ∈ cs) (h : okL ρ m cs) : okL ρ m l := by
 rw [okL_iff] at *
 exact fun v hv => h v (hs v hv)
theorem flat_sub {cs l : List SV} (hs : ∀ v ∈ l, v ∈ cs) (h : cs.all SV.flat = true) : l.all SV.flat = true := by
 rw [List.all_eq_true] at *
 exact fun v hv => h v (hs v hv)
theorem shaped_ok {ag : Bool} {l : List SV} {y : SV} (h : shaped ag l = some y) (hok : okL ρ n l) (hf : l.all SV.flat = true) :
  okSV ρ n y /\ conc ρ y = (if ag then .agg (l.map (conc ρ)).toArray else (l.map (conc ρ)).headD Go.undef) /\ (ag = false -> l = [y]) := by
 unfold shaped at h
 split at h
 ·simp at h; subst h
  exact ⟨⟨hok, hf⟩, by simp [conc, concL_eq], by simp⟩
 ·simp at h; subst h
  simp only [okL] at hok
  exact ⟨hok.1, by simp, fun _ => rfl⟩
 ·cases h
theorem part_ok {t : TypeId} {ag : Bool} {m off : Nat} {cs l : List SV} {y : SV} (ha : aggT P t = some ag) (hs : sizeT P t = some m) (hc : cut cs off m = some l)
  (hy : shaped ag l = some y) (hok : okL ρ n cs) (hf : cs.all SV.flat = true) :
  (part t (concL ρ cs).toArray off).run P w = .ok (conc ρ y) w /\ okSV ρ n y := by
 obtain ⟨h1, rfl⟩ := cut_ok hc
 have hsub : ∀ v ∈ (cs.drop off).take m, v ∈ cs := fun v hv => List.mem_of_mem_drop (List.mem_of_mem_take hv)
 obtain ⟨k1, k2, k3⟩ := shaped_ok (ρ := ρ) (n := n) hy (okL_sub hsub hok) (flat_sub hsub hf)
 refine ⟨?_, k1⟩
 cases ag with
 | true =>
  simp only [part, Sem.run_bind, run_isAgg ha, Result.andThen_ok, if_true, run_sizeT hs]
  simp only [if_true] at k2
  rw [k2]
  simp [concL_eq, List.map_drop, List.map_take, List.drop_take]
 | false =>
  have e := k3 rfl
  have hy1 : cs[off]? = some y := by
   have : ((cs.drop off).take m)[0]? = some y := by rw [e]; rfl
   rw [List.getElem?_take] at this
   split at this
   ·simpa using this
   ·cases this
  simp [part, run_isAgg ha, concL_eq, hy1]
theorem item_cells {v : SV} (ρ : Place) (h : v.item = true) : (conc ρ v).cells.toList = v.cells.map (conc ρ) := by
 cases v <;> simp_all [SV.item, SV.flat, SV.cells, conc, Value.cells, concL_eq]
theorem splice_ok {cs vs l : List SV} {o : Nat} (h : splice cs o vs = some l) : o + vs.length <= cs.length /\ l = cs.take o ++ (vs ++ cs.drop (o + vs.length)) := by
 unfold splice at h
 cases hb : Nat.ble (o + vs.length) cs.length <;> simp [hb] at h
 exact ⟨Nat.le_of_ble_eq_true hb, h.symm⟩
theorem foldl_set (off : Nat) : ∀ (vs : List Value) (k : Nat) (arr : Array Value), off + k + vs.length <= arr.size ->
  ((vs.zipIdx k).foldl (fun cs (x : Value × Nat) => cs.setIfInBounds (off + x.2) x.1) arr).toList = arr.toList.take (off + k) ++ (vs ++ arr.toList.drop (off + k + vs.length))
 | [], k, arr, _ => by simp
 | v :: vs, k, arr, h => by
  simp only [List.length_cons] at h
  rw [List.zipIdx_cons, List.foldl_cons, foldl_set off vs (k + 1) _ (by simp; omega)]
  have e := list_seg_step arr.toList (off + k) v vs (by simp; omega)
  simp only [Array.toList_setIfInBounds, List.append_assoc, List.length_cons] at e ⊢
  rw [show off + (k + 1) = off + k + 1 by omega, e]
theorem fill_step (place : Nat -> Option (Nat × Nat)) {i off size : Nat} {v : SV} {cs : List SV} {l : List SV} (hp : place i = some (off, size)) (hi : v.item = true) (hl : v.cells.length = size)
  (hs : splice cs off v.cells = some l) (rest : List (Nat × Value)) :
  Instr.fill place (cs.map (conc ρ)).toArray ((i, conc ρ v) :: rest) = Instr.fill place (l.map (conc ρ)).toArray rest := by
 obtain ⟨h1, rfl⟩ := splice_ok hs
 have hc := item_cells ρ hi
 have hsz : (conc ρ v).cells.size = v.cells.length := by rw [<- Array.length_toList, hc]; simp
 have hcond : ((conc ρ v).cells.size != size || decide (off + (conc ρ v).cells.size > (cs.map (conc ρ)).toArray.size)) = false := by
  rw [hsz, hl]; simp; omega
 have hcond' : ¬ ((conc ρ v).cells.size ≠ size \/ off + (conc ρ v).cells.size > (cs.map (conc ρ)).toArray.size) := by
  rw [hsz, hl]; simp; omega
 rw [Instr.fill]
 simp only [hp]
 rw [if_neg (by simpa using hcond')]
 congr 1
 apply Array.ext'
 have hf := foldl_set off (conc ρ v).cells.toList 0 (cs.map (conc ρ)).toArray (by simp [hsz]; omega)
 rw [show (conc ρ v).cells.zipIdx.foldl (fun cs x => match x with | (c, j) => cs.setIfInBounds (off + j) c) (cs.map (conc ρ)).toArray =
   ((conc ρ v).cells.toList.zipIdx 0).foldl (fun cs (x : Value × Nat) => cs.setIfInBounds (off + x.2) x.1) (cs.map (conc ρ)).toArray by
  rw [<- Array.foldl_toList, Array.toList_zipIdx]]
 rw [hf, hc]
 simp [List.map_take, List.map_drop]
theorem fillS_ok (place : Nat -> Option (Nat × Nat)) : ∀ (is : List Nat) (ps : List (Nat × Nat)) (xs : List SV) (vs : List Value) (cs l : List SV),
  is.length = ps.length -> ps.length = xs.length -> (∀ (k : Nat) (i : Nat) (p : Nat × Nat), is[k]? = some i -> ps[k]? = some p -> place i = some p) ->
  (xs.length = vs.length /\ ∀ (k : Nat) (x : SV) (v : Value), xs[k]? = some x -> vs[k]? = some v -> VR ρ n x v) ->
  fillS cs ((ps.zip xs).map fun p => (p.1.1, p.1.2, p.2)) = some l -> okL ρ n cs -> cs.all SV.flat = true ->
  Instr.fill place (cs.map (conc ρ)).toArray (is.zip vs) = some (l.map (conc ρ)).toArray /\ okL ρ n l /\ l.all SV.flat = true /\ l.length = cs.length
 | [], [], [], [], cs, l, _, _, _, _, h, hok, hf => by
  simp [fillS] at h; subst h
  simp [Instr.fill, hok, hf]
 | i :: is, p :: ps, x :: xs, v :: vs, cs, l, h1, h2, hp, hv, h, hok, hf => by
  obtain ⟨off, size⟩ := p
  simp only [List.zip_cons_cons, List.map_cons, fillS] at h
  cases hb : (x.item && Nat.beq x.cells.length size) with
  | false => simp [hb] at h
  | true =>
   simp only [hb, cond_true] at h
   simp only [Bool.and_eq_true] at hb
   cases hs : splice cs off x.cells with
   | none => simp [hs] at h
   | some cs' =>
    simp only [hs] at h
    have hx := hv.2 0 x v rfl rfl
    have hxn : x ≠ .junk := by rintro rfl; simp [SV.item, SV.flat] at hb
    obtain ⟨ox, rfl⟩ := hx.ne hxn
    have hpl := hp 0 i (off, size) rfl rfl
    have hl := Nat.eq_of_beq_eq_true hb.2
    rw [List.zip_cons_cons, fill_step (ρ := ρ) place hpl hb.1 hl hs]
    obtain ⟨k1, rfl⟩ := splice_ok hs
    have oc : okL ρ n x.cells /\ x.cells.all SV.flat = true := by
     cases x <;> simp_all [SV.item, SV.flat, SV.cells, okSV, okL]
    have hsub : ∀ y ∈ cs.take off ++ (x.cells ++ cs.drop (off + x.cells.length)), y ∈ cs \/ y ∈ x.cells := fun y hy => by
     simp only [List.mem_append] at hy
     rcases hy with h | h | h
     ·exact .inl (List.mem_of_mem_take h)
     ·exact .inr h
     ·exact .inl (List.mem_of_mem_drop h)
    have hok' : okL ρ n (cs.take off ++ (x.cells ++ cs.drop (off + x.cells.length))) := by
     rw [okL_iff] at *
     intro y hy
     rcases hsub y hy with h | h
     ·exact hok y h
     ·exact oc.1 y h
    have hf' : (cs.take off ++ (x.cells ++ cs.drop (off + x.cells.length))).all SV.flat = true := by
     rw [List.all_eq_true] at *
     intro y hy
     rcases hsub y hy with h | h
     ·exact hf y h
     ·exact oc.2 y h
    have ih := fillS_ok place is ps xs vs _ l (by simpa using h1) (by simpa using h2) (fun k i p hi hp' => hp (k + 1) i p hi hp') ⟨by simpa using hv.1, fun k x v hx hv' => hv.2 (k + 1) x v hx hv'⟩ h hok' hf'
    refine ⟨ih.1, ih.2.1, ih.2.2.1, ?_⟩
    rw [ih.2.2.2]
    simp
    omega
 | [], _ :: _, _, _, _, _, h1, _, _, _, _, _, _ => by simp at h1
 | _ :: _, [], _, _, _, _, h1, _, _, _, _, _, _ => by simp at h1
 | _, [], _ :: _, _, _, _, _, h2, _, _, _, _, _ => by simp at h2
 | _, _ :: _, [], _, _, _, _, h2, _, _, _, _, _ => by simp at h2
 | _, _, [], _ :: _, _, _, _, _, _, hv, _, _, _ => by simp at hv
 | _, _, _ :: _, [], _, _, _, _, _, hv, _, _, _ => by simp at hv
end
end Go.Sh

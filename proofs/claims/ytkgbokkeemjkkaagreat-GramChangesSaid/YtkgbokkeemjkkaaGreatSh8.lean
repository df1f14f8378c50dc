/- Operations that touch no memory: what the model does is what the shadow machine does. More operations that touch no memory. Operands; operations that touch no memory, as the model carries them out. The other operations that turn no memory. Structs, strings cut, the greatest and least; what reads memory. -/
import Derived.Test.YtkgbokkeemjkkaaGreatSh3
import Derived.Laws.Strings
import Derived.Laws.Cover1
set_option linter.unusedVariables false
set_option linter.unusedSimpArgs false
namespace Go.Sh
open Go
def VR (ρ : Place) (n : Nat) (sv : SV) (v : Value) : Prop := sv = .junk \/ (okSV ρ n sv /\ v = conc ρ sv)
theorem VR.of {ρ : Place} {n : Nat} {sv : SV} (h : okSV ρ n sv) : VR ρ n sv (conc ρ sv) := .inr ⟨h, rfl⟩
theorem VR.ne {ρ : Place} {n : Nat} {sv : SV} {v : Value} (h : VR ρ n sv v) (hj : sv ≠ .junk) : okSV ρ n sv /\ v = conc ρ sv := h.resolve_left hj
theorem kindEq_eq {k k' : IntKind} (h : kindEq k k' = true) : k = k' := by cases k <;> cases k' <;> simp_all [kindEq]
theorem svCell_ok {v : Value} {sv : SV} (ρ : Place) (n : Nat) (h : svCell v = some sv) : okSV ρ n sv /\ conc ρ sv = v /\ sv.flat = true := by
 cases v with
 | bool b => simp only [svCell, Option.some.injEq] at h; subst h; simp [okSV, conc, SV.flat]
 | int k m => simp only [svCell, Option.some.injEq] at h; subst h; simp [okSV, conc, SV.flat]
 | string s => simp only [svCell, Option.some.injEq] at h; subst h; simp [okSV, conc, SV.flat]
 | pointer a => cases a <;> simp [svCell] at h; subst h; simp [okSV, conc, SV.flat]
 | slice a l c =>
  cases a with
  | some a => simp [svCell] at h
  | none => cases l <;> cases c <;> simp [svCell] at h; subst h; simp [okSV, conc, nilSl, capC, SV.flat]
 | nilFunc => simp only [svCell, Option.some.injEq] at h; subst h; simp [okSV, conc, SV.flat]
 | _ => simp [svCell] at h
theorem svCells_ok (ρ : Place) (n : Nat) : ∀ (l : List Value) (svs : List SV), svCells l = some svs -> okL ρ n svs /\ svs.map (conc ρ) = l /\ svs.all SV.flat = true
 | [], svs, h => by simp [svCells] at h; subst h; simp [okL]
 | v :: l, svs, h => by
  simp only [svCells, Option.bind_eq_some_iff, Option.map_eq_some_iff] at h
  obtain ⟨x, hx, l', hl', rfl⟩ := h
  obtain ⟨h1, h2, h3⟩ := svCell_ok ρ n hx
  obtain ⟨k1, k2, k3⟩ := svCells_ok ρ n l l' hl'
  refine ⟨⟨h1, k1⟩, by simp [h2, k2], ?_⟩
  simp only [List.all_cons, h3, k3, Bool.and_self]
theorem svOf_ok {v : Value} {sv : SV} (ρ : Place) (n : Nat) (h : svOf v = some sv) : okSV ρ n sv /\ conc ρ sv = v := by
 unfold svOf at h
 split at h
 ·rename_i cs
  simp only [Option.map_eq_some_iff] at h
  obtain ⟨l, hl, rfl⟩ := h
  obtain ⟨k1, k2, k3⟩ := svCells_ok ρ n _ _ hl
  refine ⟨⟨k1, k3⟩, ?_⟩
  simp [conc, concL_eq, k2]
 ·exact ⟨(svCell_ok ρ n h).1, (svCell_ok ρ n h).2.1⟩
section
variable {P : Program} {w : World} {ρ : Place} {n : Nat}
theorem bitsOp_ok {op : BinOp} {k : IntKind} {a b : Int} {z : SV} (h : bitsOp op k a b = some z) :
  (Op.intBits op k a b).run P w = .ok (conc ρ z) w /\ okSV ρ n z := by
 cases op <;> simp [bitsOp, wrapB] at h <;> subst h <;> simp [Op.intBits, conc, okSV]
theorem binOp_ok {op : BinOp} {x y z : SV} (t : TypeId) (h : binOp op x y = some z) :
    (Go.binOp op t (conc ρ x) (conc ρ y)).run P w = .ok (conc ρ z) w /\ okSV ρ n z /\ (∀ X Y, eqGuard op t X Y (conc ρ x) (conc ρ y) = pure ()) := by
  unfold binOp at h
  split at h
  · rename_i k a k' b
    refine ⟨?_, ?_, fun X Y => by simp [conc, eqGuard_at_int]⟩
    · cases op with
      | shl => simp only [shiftOp] at h; split at h <;> simp [wrapB] at h; subst h; simp [conc, Go.binOp, Op.shift, *]
      | shr => simp only [shiftOp] at h; split at h <;> simp at h; subst h; simp [conc, Go.binOp, Op.shift, *]
      | _ =>
        simp only at h
        cases hk : kindEq k k' with
        | false => simp [hk] at h
        | true =>
          have := kindEq_eq hk
          subst this
          simp only [hk, cond_true, intOp] at h
          first
            | (simp [wrapB] at h; subst h; simp [conc, Go.binOp, Op.intArith, Op.intCmp]; done)
            | (simp at h; subst h; simp [conc, Go.binOp, Op.intArith, Op.intCmp]; done)
            | (split at h <;> simp [wrapB] at h; subst h; simp [conc, Go.binOp, Op.intDiv, *]; done)
            | (have := bitsOp_ok (P := P) (w := w) (ρ := ρ) (n := n) h; simp [conc, Go.binOp, this.1]; done)
    · cases op <;> simp only [shiftOp] at h <;>
        first
          | (split at h <;> simp [wrapB] at h; subst h; simp [okSV]; done)
          | (cases hk : kindEq k k' <;> simp only [hk, cond_true, cond_false, intOp] at h <;>
              first
                | (cases h; done)
                | (simp [wrapB] at h; subst h; simp [okSV]; done)
                | (simp at h; subst h; simp [okSV]; done)
                | (split at h <;> simp [wrapB] at h; subst h; simp [okSV]; done)
                | (exact (bitsOp_ok (P := P) (w := w) (ρ := ρ) (n := n) h).2))
  · rename_i a b
    refine ⟨?_, ?_, fun X Y => by simp [conc, eqGuard_at_string]⟩
    · have e1 : ∀ s : List UInt8, (ByteArray.mk s.toArray).toList = s := fun s => by rw [ByteArray.toList_eq]
      cases op <;> simp only [strOp] at h <;> first
        | (cases hb : Nat.ble (a.length + b.length) 4611686018427387904 <;> simp [hb] at h
           subst h
           have hb' := Nat.le_of_ble_eq_true hb
           have e : ({ data := a.toArray } : ByteArray) ++ { data := b.toArray } = { data := (a ++ b).toArray } := by
             apply ByteArray.ext
             simp
           simp [conc, Go.binOp, Op.stringOp, ByteArray.size, e]
           omega)
        | (cases h; done)
        | (simp at h; subst h; simp [conc, Go.binOp, Op.stringOp, e1]; done)
    · cases op <;> simp only [strOp] at h <;> first
        | (cases hb : Nat.ble (a.length + b.length) 4611686018427387904 <;> simp [hb] at h
           subst h; simp [okSV]; done)
        | (cases h; done)
        | (simp at h; subst h; simp [okSV]; done)
  · cases h
theorem equal_bool (t : TypeId) (ht : P.underlying t = some .bool) (a b : Bool) : (Op.equal t (.bool a) (.bool b)).run P w = .ok (a == b) w := by
 have h : ∀ d, (Op.equalIn (d + 1) t (.bool a) (.bool b)).run P w = .ok (a == b) w := fun d => by
  rw [Op.equalIn]; simp [run_underlying ht]
 exact h 9999
theorem equal_sliceN (t e : TypeId) (ht : P.underlying t = some (.slice e)) (a : Option Addr) (n c l d : Nat) : (Op.equal t (.slice a n c) (.slice none l d)).run P w = .ok a.isNone w := by
 have h : ∀ d', (Op.equalIn (d' + 1) t (.slice a n c) (.slice none l d)).run P w = .ok a.isNone w := fun d' => by
  rw [Op.equalIn]; cases a <;> simp [run_underlying ht]
 exact h 9999
theorem equal_Nslice (t e : TypeId) (ht : P.underlying t = some (.slice e)) (a : Option Addr) (n c l d : Nat) : (Op.equal t (.slice none l d) (.slice a n c)).run P w = .ok a.isNone w := by
 have h : ∀ d', (Op.equalIn (d' + 1) t (.slice none l d) (.slice a n c)).run P w = .ok a.isNone w := fun d' => by
  rw [Op.equalIn]; cases a <;> simp [run_underlying ht]
 exact h 9999
theorem binB_ok {op : BinOp} {x y z : SV} (t : TypeId) (ht : P.underlying t = some .bool) (h : binB op x y = some z) :
  (Go.binOp op t (conc ρ x) (conc ρ y)).run P w = .ok (conc ρ z) w /\ okSV ρ n z /\ (∀ X Y, eqGuard op t X Y (conc ρ x) (conc ρ y) = pure ()) := by
 unfold binB at h
 split at h
 ·rename_i a b
  refine ⟨?_, ?_, fun X Y => by simp [conc, eqGuard_at_bool]⟩
  ·cases op <;> simp at h <;> subst h <;> simp [conc, Go.binOp, equal_bool t ht]
  ·cases op <;> simp at h <;> subst h <;> simp [okSV]
 ·cases h
theorem binS_ok {op : BinOp} {x y z : SV} {e : TypeId} (t : TypeId) (ht : P.underlying t = some (.slice e)) (h : binS op x y = some z) :
  (Go.binOp op t (conc ρ x) (conc ρ y)).run P w = .ok (conc ρ z) w /\ okSV ρ n z /\ (∀ X Y, eqGuard op t X Y (conc ρ x) (conc ρ y) = pure ()) := by
 unfold binS at h
 split at h
 ·rename_i s u
  obtain ⟨sb, sl, sc⟩ := s
  obtain ⟨ub, ul, uc⟩ := u
  refine ⟨?_, ?_, fun X Y => by simp [conc, eqGuard_at_slice]⟩
  ·cases op <;> simp only [nilEq] at h <;> first
    | (cases h; done)
    | (cases sb <;> cases ub <;> simp at h <;> subst h <;> simp [conc, Go.binOp, equal_sliceN t e ht, equal_Nslice t e ht])
  ·cases op <;> simp only [nilEq] at h <;> first
    | (cases h; done)
    | (cases sb <;> cases ub <;> simp at h <;> subst h <;> simp [okSV])
 ·cases h
theorem unOp_ok {op : UnOp} {x z : SV} (h : unOp op x = some z) : (Op.unary op (conc ρ x)).run P w = .ok (conc ρ z) w /\ okSV ρ n z := by
 unfold unOp at h
 split at h
 ·simp [wrapB] at h; subst h; simp [conc, Op.unary, Op.intArith, okSV]
 ·have := bitsOp_ok (P := P) (w := w) (ρ := ρ) (n := n) h
  simp [conc, Op.unary, this.1, this.2]
 ·simp at h; subst h; simp [conc, Op.unary, okSV]
 ·cases h
end
end Go.Sh
namespace Go.Sh
open Go
section
variable {P : Program} {w : World} {ρ : Place} {n : Nat}
theorem run_isAgg {t : TypeId} {ag : Bool} (h : aggT P t = some ag) : (isAgg t).run P w = .ok ag w := by
 unfold aggT at h
 split at h <;> rename_i hu <;> (try simp at h) <;> (try subst h)
 ·simp [isAgg, run_underlying hu]
 ·simp [isAgg, run_underlying hu]
 ·rename_i d h1 h2
  simp only [isAgg, Sem.run_bind, run_underlying hu, Result.andThen_ok]
  rfl
theorem run_sizeT {t : TypeId} {m : Nat} (h : sizeT P t = some m) : (sizeOf t).run P w = .ok m w := by
 unfold sizeT at h
 simp only [Option.map_eq_some_iff] at h
 obtain ⟨i, hi, rfl⟩ := h
 simp [sizeOf, typeInfo, hi]
theorem cut_ok {cs l : List SV} {o m : Nat} (h : cut cs o m = some l) : o + m <= cs.length /\ l = (cs.drop o).take m := by
 unfold cut at h
 cases hb : Nat.ble (o + m) cs.length <;> simp [hb] at h
 exact ⟨Nat.le_of_ble_eq_true hb, h.symm⟩
theorem okL_sub {m : Nat} {cs l : List SV} (hs : ∀ v ∈ l, v ∈ cs) (h : okL ρ m cs) : okL ρ m l := by
 rw [okL_iff] at *
 exact fun v hv => h v (hs v hv)
theorem flat_sub {cs l : List SV} (hs : ∀ v ∈ l, v ∈ cs) (h : cs.all SV.flat = true) : l.all SV.flat = true := by
 rw [List.all_eq_true] at *
 exact fun v hv => h v (hs v hv)
theorem shaped_ok {ag : Bool} {l : List SV} {y : SV} (h : shaped ag l = some y) (hok : okL ρ n l) (hf : l.all SV.flat = true) :
  okSV ρ n y /\ conc ρ y = (if ag then .agg (l.map (conc ρ)).toArray else (l.map (conc ρ)).headD Go.undef) /\ (ag = false -> l = [y]) := by
 unfold shaped at h
 split at h
 ·simp at h; subst h
  exact ⟨⟨hok, hf⟩, by simp [conc, concL_eq], by simp⟩
 ·simp at h; subst h
  simp only [okL] at hok
  exact ⟨hok.1, by simp, fun _ => rfl⟩
 ·cases h
theorem part_ok {t : TypeId} {ag : Bool} {m off : Nat} {cs l : List SV} {y : SV} (ha : aggT P t = some ag) (hs : sizeT P t = some m) (hc : cut cs off m = some l)
  (hy : shaped ag l = some y) (hok : okL ρ n cs) (hf : cs.all SV.flat = true) :
  (part t (concL ρ cs).toArray off).run P w = .ok (conc ρ y) w /\ okSV ρ n y := by
 obtain ⟨h1, rfl⟩ := cut_ok hc
 have hsub : ∀ v ∈ (cs.drop off).take m, v ∈ cs := fun v hv => List.mem_of_mem_drop (List.mem_of_mem_take hv)
 obtain ⟨k1, k2, k3⟩ := shaped_ok (ρ := ρ) (n := n) hy (okL_sub hsub hok) (flat_sub hsub hf)
 refine ⟨?_, k1⟩
 cases ag with
 | true =>
  simp only [part, Sem.run_bind, run_isAgg ha, Result.andThen_ok, if_true, run_sizeT hs]
  simp only [if_true] at k2
  rw [k2]
  simp [concL_eq, List.map_drop, List.map_take, List.drop_take]
 | false =>
  have e := k3 rfl
  have hy1 : cs[off]? = some y := by
   have : ((cs.drop off).take m)[0]? = some y := by rw [e]; rfl
   rw [List.getElem?_take] at this
   split at this
   ·simpa using this
   ·cases this
  simp [part, run_isAgg ha, concL_eq, hy1]
theorem item_cells {v : SV} (ρ : Place) (h : v.item = true) : (conc ρ v).cells.toList = v.cells.map (conc ρ) := by
 cases v <;> simp_all [SV.item, SV.flat, SV.cells, conc, Value.cells, concL_eq]
theorem splice_ok {cs vs l : List SV} {o : Nat} (h : splice cs o vs = some l) : o + vs.length <= cs.length /\ l = cs.take o ++ (vs ++ cs.drop (o + vs.length)) := by
 unfold splice at h
 cases hb : Nat.ble (o + vs.length) cs.length <;> simp [hb] at h
 exact ⟨Nat.le_of_ble_eq_true hb, h.symm⟩
theorem foldl_set (off : Nat) : ∀ (vs : List Value) (k : Nat) (arr : Array Value), off + k + vs.length <= arr.size ->
  ((vs.zipIdx k).foldl (fun cs (x : Value × Nat) => cs.setIfInBounds (off + x.2) x.1) arr).toList = arr.toList.take (off + k) ++ (vs ++ arr.toList.drop (off + k + vs.length))
 | [], k, arr, _ => by simp
 | v :: vs, k, arr, h => by
  simp only [List.length_cons] at h
  rw [List.zipIdx_cons, List.foldl_cons, foldl_set off vs (k + 1) _ (by simp; omega)]
  have e := list_seg_step arr.toList (off + k) v vs (by simp; omega)
  simp only [Array.toList_setIfInBounds, List.append_assoc, List.length_cons] at e ⊢
  rw [show off + (k + 1) = off + k + 1 by omega, e]
theorem fill_step (place : Nat -> Option (Nat × Nat)) {i off size : Nat} {v : SV} {cs : List SV} {l : List SV} (hp : place i = some (off, size)) (hi : v.item = true) (hl : v.cells.length = size)
  (hs : splice cs off v.cells = some l) (rest : List (Nat × Value)) :
  Instr.fill place (cs.map (conc ρ)).toArray ((i, conc ρ v) :: rest) = Instr.fill place (l.map (conc ρ)).toArray rest := by
 obtain ⟨h1, rfl⟩ := splice_ok hs
 have hc := item_cells ρ hi
 have hsz : (conc ρ v).cells.size = v.cells.length := by rw [<- Array.length_toList, hc]; simp
 have hcond : ((conc ρ v).cells.size != size || decide (off + (conc ρ v).cells.size > (cs.map (conc ρ)).toArray.size)) = false := by
  rw [hsz, hl]; simp; omega
 have hcond' : ¬ ((conc ρ v).cells.size ≠ size \/ off + (conc ρ v).cells.size > (cs.map (conc ρ)).toArray.size) := by
  rw [hsz, hl]; simp; omega
 rw [Instr.fill]
 simp only [hp]
 rw [if_neg (by simpa using hcond')]
 congr 1
 apply Array.ext'
 have hf := foldl_set off (conc ρ v).cells.toList 0 (cs.map (conc ρ)).toArray (by simp [hsz]; omega)
 rw [show (conc ρ v).cells.zipIdx.foldl (fun cs x => match x with | (c, j) => cs.setIfInBounds (off + j) c) (cs.map (conc ρ)).toArray =
   ((conc ρ v).cells.toList.zipIdx 0).foldl (fun cs (x : Value × Nat) => cs.setIfInBounds (off + x.2) x.1) (cs.map (conc ρ)).toArray by
  rw [<- Array.foldl_toList, Array.toList_zipIdx]]
 rw [hf, hc]
 simp [List.map_take, List.map_drop]
theorem fillS_ok (place : Nat -> Option (Nat × Nat)) : ∀ (is : List Nat) (ps : List (Nat × Nat)) (xs : List SV) (vs : List Value) (cs l : List SV),
  is.length = ps.length -> ps.length = xs.length -> (∀ (k : Nat) (i : Nat) (p : Nat × Nat), is[k]? = some i -> ps[k]? = some p -> place i = some p) ->
  (xs.length = vs.length /\ ∀ (k : Nat) (x : SV) (v : Value), xs[k]? = some x -> vs[k]? = some v -> VR ρ n x v) ->
  fillS cs ((ps.zip xs).map fun p => (p.1.1, p.1.2, p.2)) = some l -> okL ρ n cs -> cs.all SV.flat = true ->
  Instr.fill place (cs.map (conc ρ)).toArray (is.zip vs) = some (l.map (conc ρ)).toArray /\ okL ρ n l /\ l.all SV.flat = true /\ l.length = cs.length
 | [], [], [], [], cs, l, _, _, _, _, h, hok, hf => by
  simp [fillS] at h; subst h
  simp [Instr.fill, hok, hf]
 | i :: is, p :: ps, x :: xs, v :: vs, cs, l, h1, h2, hp, hv, h, hok, hf => by
  obtain ⟨off, size⟩ := p
  simp only [List.zip_cons_cons, List.map_cons, fillS] at h
  cases hb : (x.item && Nat.beq x.cells.length size) with
  | false => simp [hb] at h
  | true =>
   simp only [hb, cond_true] at h
   simp only [Bool.and_eq_true] at hb
   cases hs : splice cs off x.cells with
   | none => simp [hs] at h
   | some cs' =>
    simp only [hs] at h
    have hx := hv.2 0 x v rfl rfl
    have hxn : x ≠ .junk := by rintro rfl; simp [SV.item, SV.flat] at hb
    obtain ⟨ox, rfl⟩ := hx.ne hxn
    have hpl := hp 0 i (off, size) rfl rfl
    have hl := Nat.eq_of_beq_eq_true hb.2
    rw [List.zip_cons_cons, fill_step (ρ := ρ) place hpl hb.1 hl hs]
    obtain ⟨k1, rfl⟩ := splice_ok hs
    have oc : okL ρ n x.cells /\ x.cells.all SV.flat = true := by
     cases x <;> simp_all [SV.item, SV.flat, SV.cells, okSV, okL]
    have hsub : ∀ y ∈ cs.take off ++ (x.cells ++ cs.drop (off + x.cells.length)), y ∈ cs \/ y ∈ x.cells := fun y hy => by
     simp only [List.mem_append] at hy
     rcases hy with h | h | h
     ·exact .inl (List.mem_of_mem_take h)
     ·exact .inr h
     ·exact .inl (List.mem_of_mem_drop h)
    have hok' : okL ρ n (cs.take off ++ (x.cells ++ cs.drop (off + x.cells.length))) := by
     rw [okL_iff] at *
     intro y hy
     rcases hsub y hy with h | h
     ·exact hok y h
     ·exact oc.1 y h
    have hf' : (cs.take off ++ (x.cells ++ cs.drop (off + x.cells.length))).all SV.flat = true := by
     rw [List.all_eq_true] at *
     intro y hy
     rcases hsub y hy with h | h
     ·exact hf y h
     ·exact oc.2 y h
    have ih := fillS_ok place is ps xs vs _ l (by simpa using h1) (by simpa using h2) (fun k i p hi hp' => hp (k + 1) i p hi hp') ⟨by simpa using hv.1, fun k x v hx hv' => hv.2 (k + 1) x v hx hv'⟩ h hok' hf'
    refine ⟨ih.1, ih.2.1, ih.2.2.1, ?_⟩
    rw [ih.2.2.2]
    simp
    omega
 | [], _ :: _, _, _, _, _, h1, _, _, _, _, _, _ => by simp at h1
 | _ :: _, [], _, _, _, _, h1, _, _, _, _, _, _ => by simp at h1
 | _, [], _ :: _, _, _, _, _, h2, _, _, _, _, _ => by simp at h2
 | _, _ :: _, [], _, _, _, _, h2, _, _, _, _, _ => by simp at h2
 | _, _, [], _ :: _, _, _, _, _, _, hv, _, _, _ => by simp at hv
 | _, _, _ :: _, [], _, _, _, _, _, hv, _, _, _ => by simp at hv
end
end Go.Sh
namespace Go.Sh
open Go
structure Rel (P : Program) (h : Hints) (cx : Ctx) (ρ : Place) (lam : Nat -> Nat) (T : Tmps) (H : Heap) (a : Act) (w : World) : Prop where
 heap : HRel cx ρ H w
 tmps : TRel cx ρ lam h.isLoc h.derOf H w T a
def VRL (ρ : Place) (n : Nat) : List SV -> List Value -> Prop
 | [], [] => True
 | x :: xs, v :: vs => VR ρ n x v /\ VRL ρ n xs vs
 | _, _ => False
theorem VRL.length {ρ : Place} {n : Nat} : ∀ {xs : List SV} {vs : List Value}, VRL ρ n xs vs -> xs.length = vs.length
 | [], [], _ => rfl
 | x :: xs, v :: vs, h => by simp only [VRL] at h; simp [VRL.length h.2]
 | [], _ :: _, h => by simp [VRL] at h
 | _ :: _, [], h => by simp [VRL] at h
theorem VRL.get {ρ : Place} {n : Nat} : ∀ {xs : List SV} {vs : List Value}, VRL ρ n xs vs -> ∀ (k : Nat) (x : SV) (v : Value), xs[k]? = some x -> vs[k]? = some v -> VR ρ n x v
 | [], [], _, k, x, v, hx, _ => by simp at hx
 | x :: xs, v :: vs, h, 0, x', v', hx, hv => by
  simp only [VRL] at h; simp at hx hv; subst hx; subst hv; exact h.1
 | x :: xs, v :: vs, h, k + 1, x', v', hx, hv => by
  simp only [VRL] at h; exact VRL.get h.2 k x' v' (by simpa using hx) (by simpa using hv)
 | [], _ :: _, h, _, _, _, _, _ => by simp [VRL] at h
 | _ :: _, [], h, _, _, _, _, _ => by simp [VRL] at h
theorem VRL.ok {ρ : Place} {n : Nat} : ∀ {xs : List SV} {vs : List Value}, VRL ρ n xs vs -> xs.all SV.good = true -> okL ρ n xs /\ vs = concL ρ xs
 | [], [], _, _ => by simp [okL, concL]
 | x :: xs, v :: vs, h, hg => by
  simp only [VRL] at h
  simp only [List.all_cons, Bool.and_eq_true] at hg
  have hx : x ≠ .junk := by rintro rfl; simp [SV.good] at hg
  obtain ⟨o, rfl⟩ := h.1.ne hx
  obtain ⟨ol, rfl⟩ := VRL.ok h.2 hg.2
  exact ⟨⟨o, ol⟩, by simp [concL]⟩
 | [], _ :: _, h, _ => by simp [VRL] at h
 | _ :: _, [], h, _ => by simp [VRL] at h
section
variable {P : Program} {h : Hints} {cx : Ctx} {ρ : Place} {lam : Nat -> Nat} {T : Tmps} {H : Heap} {a : Act} {w : World}
theorem getT_cases (T : Tmps) (t : Nat) : T[t]? = some (getT T t) \/ getT T t = .junk := by
 unfold getT
 cases ht : T[t]? with
 | none => right; simp [List.getD, ht]
 | some v => left; simp [List.getD, ht]
theorem ev_tmp (hr : TRel cx ρ lam h.isLoc h.derOf H w T a) {t : Nat} (hl : h.isLoc t = false) (hd : h.derOf t = none) : VR ρ H.size (getT T t) (a.tmps.getD t Go.undef) := by
 rcases getT_cases T t with hg | hg
 ·have := hr.slot t _ hg
  cases hv : getT T t with
  | junk => exact .inl rfl
  | box cs =>
   have := hr.boxloc t cs (hv ▸ hg)
   simp [hl] at this
  | lptr o =>
   rw [hv] at this
   obtain ⟨u, hu, _⟩ := this
   simp [hd] at hu
  | _ => rw [hv] at this; exact .inr this
 ·exact .inl hg
theorem ev_opd (hr : TRel cx ρ lam h.isLoc h.derOf H w T a) {x : Operand} {y : Opd} (ho : opd h x = some y) : VR ρ H.size (y.ev T) (a.eval x) := by
 cases x with
 | tmp t =>
  simp only [opd] at ho
  cases hb : (h.isLoc t || (h.derOf t).isSome) with
  | true => simp [hb] at ho
  | false =>
   simp only [hb, cond_false, Option.some.injEq] at ho
   subst ho
   simp only [Bool.or_eq_false_iff] at hb
   exact ev_tmp hr hb.1 (by cases hd : h.derOf t <;> simp_all)
 | const v =>
  simp only [opd, Option.map_eq_some_iff] at ho
  obtain ⟨sv, hs, rfl⟩ := ho
  obtain ⟨h1, h2⟩ := svOf_ok ρ H.size hs
  exact .inr ⟨h1, by simp [Act.eval, Opd.ev, h2]⟩
 | global g => simp [opd] at ho
 | func f =>
  simp only [opd, Option.some.injEq] at ho
  subst ho
  exact .inr ⟨by simp [Opd.ev, okSV, okL], by simp [Opd.ev, Act.eval, conc, concL]⟩
theorem ev_opds (hr : TRel cx ρ lam h.isLoc h.derOf H w T a) : ∀ {l : List Operand} {ys : List Opd}, opds h l = some ys -> VRL ρ H.size (ys.map (·.ev T)) (l.map a.eval)
 | [], ys, ho => by simp [opds] at ho; subst ho; simp [VRL]
 | x :: l, ys, ho => by
  simp only [opds, Option.bind_eq_some_iff, Option.map_eq_some_iff] at ho
  obtain ⟨y, hy, ys', hys, rfl⟩ := ho
  exact ⟨ev_opd hr hy, ev_opds hr hys⟩
def RunsTo (P : Program) (ρ : Place) (n : Nat) (a : Act) (w : World) (o : Oper) (y : SV) : Prop :=
 ∃ v, (execOp a.eval o).run P w = .ok (.value v) w /\ VR ρ n y v
theorem mkOp_eq {o : Oper} {k : K} {args : List Opd} {r : K × List Opd × Option Nat × List Nat} (hm : mkOp o k args = some r) : r = (k, args, o.dst, []) := by
 simp [mkOp] at hm; exact hm.symm
theorem VR.int_of {ρ : Place} {n : Nat} {k : IntKind} {m : Int} {v : Value} (hv : VR ρ n (.int k m) v) : v = .int k m := by
 simpa [conc] using (hv.ne (by simp)).2
theorem A_bin {o : Oper} {op : BinOp} {t ty : TypeId} {x y : Operand} {r : K × List Opd × Option Nat × List Nat} (hop : o.op = .binOp op t x y ty) (hc : compBin P h o op t x y = some r)
  (hr : TRel cx ρ lam h.isLoc h.derOf H w T a) : r.2.2 = (o.dst, []) /\ ∃ k, r.1 = .p k /\ ∀ z, opP k (r.2.1.map (·.ev T)) = some z -> RunsTo P ρ H.size a w o z := by
 simp only [compBin, Option.bind_eq_some_iff] at hc
 obtain ⟨x', hx, y', hy, hc⟩ := hc
 have ex := ev_opd hr hx
 have ey := ev_opd hr hy
 split at hc <;> (try cases hc) <;> rename_i hu
 ·refine ⟨rfl, _, rfl, fun z hz => ?_⟩
  simp only [List.map_cons, List.map_nil, opP] at hz
  have jx : x'.ev T ≠ .junk := by intro e; rw [e] at hz; simp [binOp] at hz
  have jy : y'.ev T ≠ .junk := by intro e; rw [e] at hz; cases x'.ev T <;> simp [binOp] at hz
  obtain ⟨h1, h2, h3⟩ := binOp_ok (P := P) (w := w) (ρ := ρ) (n := H.size) t hz
  exact ⟨_, by simp [execOp, hop, (ex.ne jx).2, (ey.ne jy).2, h1, h3], .of h2⟩
 ·refine ⟨rfl, _, rfl, fun z hz => ?_⟩
  simp only [List.map_cons, List.map_nil, opP] at hz
  have jx : x'.ev T ≠ .junk := by intro e; rw [e] at hz; simp [binOp] at hz
  have jy : y'.ev T ≠ .junk := by intro e; rw [e] at hz; cases x'.ev T <;> simp [binOp] at hz
  obtain ⟨h1, h2, h3⟩ := binOp_ok (P := P) (w := w) (ρ := ρ) (n := H.size) t hz
  exact ⟨_, by simp [execOp, hop, (ex.ne jx).2, (ey.ne jy).2, h1, h3], .of h2⟩
 ·refine ⟨rfl, _, rfl, fun z hz => ?_⟩
  simp only [List.map_cons, List.map_nil, opP] at hz
  have jx : x'.ev T ≠ .junk := by intro e; rw [e] at hz; simp [binB] at hz
  have jy : y'.ev T ≠ .junk := by intro e; rw [e] at hz; cases x'.ev T <;> simp [binB] at hz
  obtain ⟨h1, h2, h3⟩ := binB_ok (P := P) (w := w) (ρ := ρ) (n := H.size) t hu hz
  exact ⟨_, by simp [execOp, hop, (ex.ne jx).2, (ey.ne jy).2, h1, h3], .of h2⟩
 ·refine ⟨rfl, _, rfl, fun z hz => ?_⟩
  simp only [List.map_cons, List.map_nil, opP] at hz
  have jx : x'.ev T ≠ .junk := by intro e; rw [e] at hz; simp [binS] at hz
  have jy : y'.ev T ≠ .junk := by intro e; rw [e] at hz; cases x'.ev T <;> simp [binS] at hz
  obtain ⟨h1, h2, h3⟩ := binS_ok (P := P) (w := w) (ρ := ρ) (n := H.size) t hu hz
  exact ⟨_, by simp [execOp, hop, (ex.ne jx).2, (ey.ne jy).2, h1, h3], .of h2⟩
end
end Go.Sh
namespace Go.Sh
open Go
section
variable {P : Program} {h : Hints} {cx : Ctx} {ρ : Place} {lam : Nat -> Nat} {T : Tmps} {H : Heap} {a : Act} {w : World}
theorem run_loadAt {t : TypeId} {ag : Bool} {m n : Nat} {l : List SV} {y : SV} (b o : Nat) (ha : aggT P t = some ag) (hs : sizeT P t = some m) (hl : l.length = m)
  (hy : shaped ag l = some y) (hok : okL ρ n l) (hf : l.all SV.flat = true) (hc : ∀ (j : Nat) (v : SV), l[j]? = some v -> w.cell? ⟨b, o + j, none⟩ = some (conc ρ v)) :
  (Instr.loadAt t (.pointer (some ⟨b, o, none⟩))).run P w = .ok (conc ρ y) w /\ okSV ρ n y := by
 obtain ⟨k1, k2, k3⟩ := shaped_ok (ρ := ρ) (n := n) hy hok hf
 refine ⟨?_, k1⟩
 cases ag with
 | true =>
  have hcs := run_loadCells_list (P := P) w ⟨b, o, none⟩ (l.map (conc ρ)) (fun j v hj => by
   rw [Addr.add_lit]
   simp only [List.getElem?_map, Option.map_eq_some_iff] at hj
   obtain ⟨x, hx, rfl⟩ := hj
   exact hc j x hx)
  simp only [List.length_map, hl] at hcs
  simp only [if_true] at k2
  simp [Instr.loadAt, Instr.sureAddr, loadVar, run_isAgg ha, run_sizeT hs, hcs, k2]
 | false =>
  have e := k3 rfl
  have h0 := hc 0 y (by rw [e]; rfl)
  simp only [Nat.add_zero] at h0
  simp [Instr.loadAt, Instr.sureAddr, loadVar, run_isAgg ha, h0]
theorem A_one {o : Oper} {x : Operand} {y : Opd} (hr : TRel cx ρ lam h.isLoc h.derOf H w T a) (hy : opd h x = some y) (he : execOp a.eval o = pure (.value (a.eval x))) {z : SV} (hz : y.ev T = z) : RunsTo P ρ H.size a w o z := by
 subst hz
 exact ⟨_, by rw [he]; rfl, ev_opd hr hy⟩
theorem A_pick {o : Oper} {c x y : Operand} {c' x' y' : Opd} (hop : o.op = .pick c x y) (hc : opd h c = some c') (hx : opd h x = some x') (hy : opd h y = some y')
  (hr : TRel cx ρ lam h.isLoc h.derOf H w T a) {z : SV} (hz : opP .pick [c'.ev T, x'.ev T, y'.ev T] = some z) : RunsTo P ρ H.size a w o z := by
 have ec := ev_opd hr hc
 simp only [opP] at hz
 split at hz
 ·rename_i hb
  rw [hb] at ec
  simp at hz; subst hz
  have := (ec.ne (by simp)).2
  simp only [conc] at this
  exact ⟨_, by simp [execOp, hop, this, asBool], ev_opd hr hx⟩
 ·rename_i hb
  rw [hb] at ec
  simp at hz; subst hz
  have := (ec.ne (by simp)).2
  simp only [conc] at this
  exact ⟨_, by simp [execOp, hop, this, asBool], ev_opd hr hy⟩
 ·cases hz
theorem A_un {o : Oper} {op : UnOp} {t : TypeId} {x : Operand} {x' : Opd} (hop : o.op = .unOp op t x) (hx : opd h x = some x')
  (hr : TRel cx ρ lam h.isLoc h.derOf H w T a) {z : SV} (hz : opP (.un op) [x'.ev T] = some z) : RunsTo P ρ H.size a w o z := by
 have ex := ev_opd hr hx
 simp only [opP] at hz
 have jx : x'.ev T ≠ .junk := by intro e; rw [e] at hz; simp [unOp] at hz
 obtain ⟨h1, h2⟩ := unOp_ok (P := P) (w := w) (ρ := ρ) (n := H.size) hz
 exact ⟨_, by simp [execOp, hop, (ex.ne jx).2, h1], .of h2⟩
theorem A_ext {o : Oper} {i : Nat} {x : Operand} {x' : Opd} (hop : o.op = .extract x i) (hx : opd h x = some x')
  (hr : TRel cx ρ lam h.isLoc h.derOf H w T a) {z : SV} (hz : opP (.ext i) [x'.ev T] = some z) : RunsTo P ρ H.size a w o z := by
 have ex := ev_opd hr hx
 generalize x'.ev T = sx at *
 cases sx <;> simp [opP] at hz
 rename_i vs
 obtain ⟨o1, e1⟩ := ex.ne (by simp)
 simp only [listIdx] at hz
 simp only [okSV] at o1
 have hz' : okSV ρ H.size z := (okL_iff _ _ _).1 o1 z (List.mem_of_getElem? hz)
 exact ⟨conc ρ z, by simp [execOp, hop, e1, conc, concL_eq, Instr.extract, hz], .of hz'⟩
theorem A_conv {o : Oper} {s d : TypeId} {k k' : IntKind} {x : Operand} {x' : Opd} (hop : o.op = .convert s d x) (hs : P.underlying s = some (.int k')) (hd : P.underlying d = some (.int k)) (hx : opd h x = some x')
  (hr : TRel cx ρ lam h.isLoc h.derOf H w T a) {z : SV} (hz : opP (.conv k) [x'.ev T] = some z) : RunsTo P ρ H.size a w o z := by
 have ex := ev_opd hr hx
 generalize x'.ev T = sx at *
 cases sx <;> simp [opP, wrapB] at hz
 subst hz
 obtain ⟨o1, e1⟩ := ex.ne (by simp)
 exact ⟨.int k (k.wrap _), by simp [execOp, hop, e1, conc, convert, run_underlying hs, run_underlying hd, Conv.intToInt]; rfl, .inr ⟨by simp [okSV], by simp [conc]⟩⟩
theorem A_len {o : Oper} {t e : TypeId} {x : Operand} {x' : Opd} (hop : o.op = .call { callee := .builtin .len, args := #[x], argTypes := #[t] }) (ht : P.underlying t = some (.slice e)) (hx : opd h x = some x')
  (hr : TRel cx ρ lam h.isLoc h.derOf H w T a) {z : SV} (hz : opP .len [x'.ev T] = some z) : RunsTo P ρ H.size a w o z := by
 have ex := ev_opd hr hx
 generalize x'.ev T = sx at *
 cases sx <;> simp [opP] at hz
 subst hz
 obtain ⟨o1, e1⟩ := ex.ne (by simp)
 exact ⟨_, by simp [execOp, hop, e1, conc, resolve, invoke, builtin, Builtin.len_, run_underlying ht]; rfl, .inr ⟨by simp [okSV], by simp [conc, goInt]⟩⟩
theorem A_slen {o : Oper} {t : TypeId} {x : Operand} {x' : Opd} (hop : o.op = .call { callee := .builtin .len, args := #[x], argTypes := #[t] }) (ht : P.underlying t = some .string) (hx : opd h x = some x')
  (hr : TRel cx ρ lam h.isLoc h.derOf H w T a) {z : SV} (hz : opP .slen [x'.ev T] = some z) : RunsTo P ρ H.size a w o z := by
 have ex := ev_opd hr hx
 generalize x'.ev T = sx at *
 cases sx <;> simp [opP] at hz
 subst hz
 obtain ⟨o1, e1⟩ := ex.ne (by simp)
 exact ⟨_, by simp [execOp, hop, e1, conc, resolve, invoke, builtin, Builtin.len_, run_underlying ht]; rfl, .inr ⟨by simp [okSV], by simp [conc, goInt, ByteArray.size]⟩⟩
theorem add_place (ρ : Place) (p : Nat × Nat) (k : Nat) : (addrOf ρ p).add k = addrOf ρ (p.1, p.2 + k) := by
 simp [addrOf, Addr.add_lit, Nat.add_assoc]
theorem A_idx {o : Oper} {t e : TypeId} {m : Nat} {x i : Operand} {x' i' : Opd} (hop : o.op = .indexAddr t x i) (ht : P.underlying t = some (.slice e)) (hs : sizeT P e = some m)
  (hx : opd h x = some x') (hi : opd h i = some i') (hr : TRel cx ρ lam h.isLoc h.derOf H w T a) {z : SV} (hz : opP (.idx m) [x'.ev T, i'.ev T] = some z) : RunsTo P ρ H.size a w o z := by
 have ex := ev_opd hr hx
 have ei := ev_opd hr hi
 generalize x'.ev T = sx at *
 generalize i'.ev T = si at *
 cases sx <;> cases si <;> simp [opP] at hz
 rename_i s k n
 obtain ⟨hn, hz⟩ := hz
 obtain ⟨o1, e1⟩ := ex.ne (by simp)
 have e2 := ei.int_of
 cases hb : s.base with
 | none => simp [hb] at hz
 | some p =>
  simp [hb] at hz; subst hz
  simp only [okSV] at o1
  have hcap : capC ρ s ≠ 0 := by have := o1.2; omega
  refine ⟨conc ρ (.ptr (p.1, p.2 + n.toNat * m)), ?_, .of ?_⟩
  ·simp [execOp, hop, e1, e2, conc, Instr.indexAt, asIntOf, run_underlying ht, hb, hn, run_sizeT hs, add_place, baseC, hcap]
  ·simp only [okSV]
   exact o1.1 p hb
theorem A_pidx {o : Oper} {t e : TypeId} {m len : Nat} {x i : Operand} {sx : SV} {i' : Opd} (hop : o.op = .indexAddr t x i) (ht : P.underlying t = some (.array len e)) (hs : sizeT P e = some m)
  (ex : VR ρ H.size sx (a.eval x)) (hi : opd h i = some i') (hr : TRel cx ρ lam h.isLoc h.derOf H w T a) {z : SV} (hz : opP (.pidx len m) [sx, i'.ev T] = some z) : RunsTo P ρ H.size a w o z := by
 have ei := ev_opd hr hi
 generalize i'.ev T = si at *
 cases sx <;> cases si <;> simp [opP] at hz
 rename_i p k n
 obtain ⟨hn, hz⟩ := hz
 obtain ⟨o1, e1⟩ := ex.ne (by simp)
 have e2 := ei.int_of
 subst hz
 refine ⟨conc ρ (.ptr (p.1, p.2 + n.toNat * m)), ?_, .of ?_⟩
 ·simp [execOp, hop, e1, e2, conc, Instr.indexAt, Instr.sureAddr, asIntOf, run_underlying ht, hn, run_sizeT hs, add_place]
 ·simp only [okSV] at o1 ⊢
  exact o1
theorem run_fieldPlace {b : Addr} {f : Field} {m : Nat} (hs : sizeT P f.type = some m) (hm : m ≠ 0) : (fieldPlace b f).run P w = .ok (b.add f.offset) w := by
 simp [fieldPlace, run_sizeT hs, hm]
theorem A_fld {o : Oper} {s : TypeId} {fields : Array Field} {f : Nat} {fl : Field} {m : Nat} {x : Operand} {sx : SV} (hop : o.op = .fieldAddr s x f) (ht : P.underlying s = some (.struct fields)) (hf : fields[f]? = some fl)
  (hs : sizeT P fl.type = some m) (hm : m ≠ 0) (ex : VR ρ H.size sx (a.eval x)) {z : SV} (hz : opP (.fld fl.offset) [sx] = some z) : RunsTo P ρ H.size a w o z := by
 cases sx <;> simp [opP] at hz
 rename_i p
 subst hz
 obtain ⟨o1, e1⟩ := ex.ne (by simp)
 refine ⟨conc ρ (.ptr (p.1, p.2 + fl.offset)), ?_, .of ?_⟩
 ·simp [execOp, hop, e1, conc, Instr.fieldAt, Instr.sureAddr, run_underlying ht, hf, run_fieldPlace hs hm, add_place]
 ·simp only [okSV] at o1 ⊢
  exact o1
theorem A_fieldv {o : Oper} {s : TypeId} {fields : Array Field} {f : Nat} {fl : Field} {m : Nat} {ag : Bool} {x : Operand} {x' : Opd} (hop : o.op = .field s x f) (ht : P.underlying s = some (.struct fields)) (hf : fields[f]? = some fl)
  (hs : sizeT P fl.type = some m) (ha : aggT P fl.type = some ag) (hx : opd h x = some x') (hr : TRel cx ρ lam h.isLoc h.derOf H w T a) {z : SV} (hz : opP (.fieldv fl.offset m ag) [x'.ev T] = some z) : RunsTo P ρ H.size a w o z := by
 have ex := ev_opd hr hx
 generalize x'.ev T = sx at *
 cases sx <;> simp only [opP, Option.bind_eq_some_iff] at hz <;> (try cases hz)
 rename_i cs l hz
 obtain ⟨o1, e1⟩ := ex.ne (by simp)
 simp only [okSV] at o1
 obtain ⟨h1, h2⟩ := part_ok (P := P) (w := w) (ρ := ρ) (n := H.size) ha hs hz.1 hz.2 o1.1 o1.2
 exact ⟨_, by simp [execOp, hop, e1, conc, Instr.field, run_underlying ht, hf, asAgg, h1], .of h2⟩
theorem A_indexv {o : Oper} {t e : TypeId} {len m : Nat} {ag : Bool} {x i : Operand} {x' i' : Opd} (hop : o.op = .index t x i) (ht : P.underlying t = some (.array len e))
  (hs : sizeT P e = some m) (ha : aggT P e = some ag) (hx : opd h x = some x') (hi : opd h i = some i') (hr : TRel cx ρ lam h.isLoc h.derOf H w T a) {z : SV} (hz : opP (.indexv len m ag) [x'.ev T, i'.ev T] = some z) : RunsTo P ρ H.size a w o z := by
 have ex := ev_opd hr hx
 have ei := ev_opd hr hi
 generalize x'.ev T = sx at *
 generalize i'.ev T = si at *
 cases sx <;> cases si <;> simp only [opP] at hz <;> (try cases hz)
 rename_i cs k n
 split at hz
 ·rename_i hn
  simp only [Option.bind_eq_some_iff] at hz
  obtain ⟨l, hz1, hz2⟩ := hz
  obtain ⟨o1, e1⟩ := ex.ne (by simp)
  have e2 := ei.int_of
  simp only [okSV] at o1
  obtain ⟨h1, h2⟩ := part_ok (P := P) (w := w) (ρ := ρ) (n := H.size) ha hs hz1 hz2 o1.1 o1.2
  exact ⟨_, by simp [execOp, hop, e1, e2, conc, Instr.index, asIntOf, run_underlying ht, hn, run_sizeT hs, h1], .of h2⟩
 ·cases hz
theorem A_stridx {o : Oper} {t : TypeId} {x i : Operand} {x' i' : Opd} (hop : o.op = .index t x i) (ht : P.underlying t = some .string)
  (hx : opd h x = some x') (hi : opd h i = some i') (hr : TRel cx ρ lam h.isLoc h.derOf H w T a) {z : SV} (hz : opP .stridx [x'.ev T, i'.ev T] = some z) : RunsTo P ρ H.size a w o z := by
 have ex := ev_opd hr hx
 have ei := ev_opd hr hi
 generalize x'.ev T = sx at *
 generalize i'.ev T = si at *
 cases sx <;> cases si <;> simp [opP] at hz
 rename_i s k n
 obtain ⟨hn, hz⟩ := hz
 obtain ⟨o1, e1⟩ := ex.ne (by simp)
 have e2 := ei.int_of
 cases hb : s[n.toNat]? with
 | none => simp [hb] at hz
 | some b =>
  simp [hb] at hz; subst hz
  have hg : (ByteArray.mk s.toArray)[n.toNat]? = some b := by
   rw [<- hb]
   show (if hlt : n.toNat < (ByteArray.mk s.toArray).size then some (ByteArray.mk s.toArray)[n.toNat] else none) = _
   have hlt : n.toNat < s.length := (List.getElem?_eq_some_iff.1 hb).1
   have : n.toNat < (ByteArray.mk s.toArray).size := by simpa [ByteArray.size] using hlt
   simp [this, List.getElem?_eq_getElem hlt]
   rfl
  exact ⟨.int .u8 b.toNat, by simp [execOp, hop, e1, e2, conc, Instr.index, asIntOf, run_underlying ht, hn, hg], .inr ⟨by simp [okSV], by simp [conc]⟩⟩
theorem A_nilchk {o : Oper} {x : Operand} {x' : Opd} (hop : o.op = .nilCheck x) (hx : opd h x = some x')
  (hr : TRel cx ρ lam h.isLoc h.derOf H w T a) {z : SV} (hz : opP .nilchk [x'.ev T] = some z) : RunsTo P ρ H.size a w o z := by
 have ex := ev_opd hr hx
 generalize x'.ev T = sx at *
 cases sx <;> simp [opP] at hz <;> subst hz <;> obtain ⟨o1, e1⟩ := ex.ne (by simp)
 ·exact ⟨_, by simp [execOp, hop, e1, conc]; rfl, .inr ⟨o1, by simp [conc]⟩⟩
 ·exact ⟨_, by simp [execOp, hop, e1, conc]; rfl, .inr ⟨o1, by simp [conc]⟩⟩
theorem A_mkfn {o : Oper} {f : FuncId} {first captured : Array Operand} {xs : List Opd} (hop : o.op = .makeFunc (.func f) first captured) (hx : opds h (first.toList ++ captured.toList) = some xs)
  (hr : TRel cx ρ lam h.isLoc h.derOf H w T a) {z : SV} (hz : opP (.mkfn f first.size) (xs.map (·.ev T)) = some z) : RunsTo P ρ H.size a w o z := by
 have ex := ev_opds hr hx
 simp only [opP] at hz
 cases hg : (xs.map (·.ev T)).all SV.good with
 | false => rw [hg] at hz; simp at hz
 | true =>
  rw [hg] at hz
  simp only [cond_true, Option.some.injEq] at hz
  subst hz
  obtain ⟨o1, e1⟩ := ex.ok hg
  have o1' := (okL_iff _ _ _).1 o1
  have hlen : (xs.map (·.ev T)).length = first.size + captured.size := by rw [ex.length]; simp
  refine ⟨_, by simp [execOp, hop, Instr.makeFunc]; rfl, .inr ⟨?_, ?_⟩⟩
  ·simp only [okSV]
   exact ⟨(okL_iff _ _ _).2 fun v hv => o1' v (List.mem_of_mem_take hv), (okL_iff _ _ _).2 fun v hv => o1' v (List.mem_of_mem_drop hv)⟩
  ·simp only [conc]
   rw [concL_eq] at e1
   have h1 : first.toList.map a.eval = ((xs.map (·.ev T)).take first.size).map (conc ρ) := by
    rw [List.map_take, <- e1]; simp
   have h2 : captured.toList.map a.eval = ((xs.map (·.ev T)).drop first.size).map (conc ρ) := by
    rw [List.map_drop, <- e1]; simp
   rw [concL_eq, concL_eq, <- h1, <- h2]
   simp only [Value.func.injEq, true_and]
   exact ⟨Array.ext' (by simp), Array.ext' (by simp)⟩
end
end Go.Sh
namespace Go.Sh
open Go
section
variable {P : Program} {h : Hints} {cx : Ctx} {ρ : Place} {lam : Nat -> Nat} {T : Tmps} {H : Heap} {a : Act} {w : World}
theorem placesOf_ok {fields : Array Field} : ∀ (l : List (Nat × Operand)) (ps : List (Nat × Nat)), placesOf P fields l = some ps ->
  l.length = ps.length /\ ∀ (k i : Nat) (p : Nat × Nat), (l.map (·.1))[k]? = some i -> ps[k]? = some p -> ∃ f, fields[i]? = some f /\ p.1 = f.offset /\ sizeT P f.type = some p.2
 | [], ps, hp => by simp [placesOf] at hp; subst hp; simp
 | (i, x) :: l, ps, hp => by
  simp only [placesOf, Option.bind_eq_some_iff, Option.map_eq_some_iff] at hp
  obtain ⟨f, hf, m, hm, ps', hp', rfl⟩ := hp
  obtain ⟨h1, h2⟩ := placesOf_ok l ps' hp'
  refine ⟨by simp [h1], fun k i' p hi hp => ?_⟩
  cases k with
  | zero => simp at hi hp; subst hi; subst hp; exact ⟨f, hf, rfl, hm⟩
  | succ k => exact h2 k i' p (by simpa using hi) (by simpa using hp)
theorem run_places (fields : Array Field) (hs : sizesOk P fields = true) :
  ∃ arr : Array (Nat × Nat), (fields.mapM fun f => (do pure (f.offset, <- sizeOf f.type) : Sem (Nat × Nat))).run P w = .ok arr w /\ 
   ∀ (i : Nat) (f : Field) (m : Nat), fields[i]? = some f -> sizeT P f.type = some m -> arr[i]? = some (f.offset, m) := by
 have key : ∀ (l : List Field), (l.all fun f => (sizeT P f.type).isSome) = true ->
   ∃ r : List (Nat × Nat), (l.mapM fun f => (do pure (f.offset, <- sizeOf f.type) : Sem (Nat × Nat))).run P w = .ok r w /\ 
    ∀ (i : Nat) (f : Field) (m : Nat), l[i]? = some f -> sizeT P f.type = some m -> r[i]? = some (f.offset, m) := by
  intro l
  induction l with
  | nil => intro _; exact ⟨[], by simp, by simp⟩
  | cons f l ih =>
   intro hl
   simp only [List.all_cons, Bool.and_eq_true] at hl
   obtain ⟨r, hr, hg⟩ := ih hl.2
   obtain ⟨m, hm⟩ := Option.isSome_iff_exists.1 hl.1
   refine ⟨(f.offset, m) :: r, ?_, ?_⟩
   ·simp [List.mapM_cons, run_sizeT hm]
    simp at hr
    rw [hr]
    simp
   ·intro i f' m' hf hm'
    cases i with
    | zero => simp at hf; subst hf; rw [hm] at hm'; cases hm'; rfl
    | succ i => exact hg i f' m' (by simpa using hf) hm'
 obtain ⟨r, hr, hg⟩ := key fields.toList (by simpa [sizesOk] using hs)
 refine ⟨r.toArray, ?_, fun i f m hf hm => ?_⟩
 ·rw [Array.mapM_eq_mapM_toList]
  simp only [Sem.run_map, hr, Result.andThen_ok]
 ·simpa using hg i f m (by simpa using hf) hm
theorem zeroT_ok {t : TypeId} {z : List SV} (n : Nat) (hz : zeroT P t = some z) : ∃ v, (zeroValue t).run P w = .ok v w /\ v.cells = (z.map (conc ρ)).toArray /\ okL ρ n z /\ z.all SV.flat = true /\ (∃ i, P.info? t = some i /\ i.zero = some v) := by
 simp only [zeroT, Option.bind_eq_some_iff] at hz
 obtain ⟨v, ⟨i, hi, hv⟩, hz⟩ := hz
 obtain ⟨k1, k2, k3⟩ := svCells_ok ρ n _ _ hz
 exact ⟨v, by simp [zeroValue, typeInfo, hi, hv], by rw [k2], k1, k3, i, hi, hv⟩
theorem A_build {o : Oper} {t : TypeId} {parts : Array (Nat × Operand)} {xs : List Opd} {z : List SV} {ps : List (Nat × Nat)} (hop : o.op = .build t parts) (hx : opds h (parts.toList.map (·.2)) = some xs)
  (hz : zeroT P t = some z) (hp : (∃ fields, P.underlying t = some (.struct fields) /\ placesOf P fields parts.toList = some ps /\ sizesOk P fields = true) \/
   (∃ len e m, P.underlying t = some (.array len e) /\ sizeT P e = some m /\ ps = parts.toList.map fun p => (p.1 * m, m)))
  (hr : TRel cx ρ lam h.isLoc h.derOf H w T a) {y : SV} (hy : opP (.build z ps) (xs.map (·.ev T)) = some y) : RunsTo P ρ H.size a w o y := by
 have ex := ev_opds hr hx
 obtain ⟨v, hv, hc, okz, fz, _⟩ := zeroT_ok (P := P) (w := w) (ρ := ρ) H.size hz
 simp only [opP] at hy
 cases hb : Nat.beq ps.length (xs.map (·.ev T)).length with
 | false => rw [hb] at hy; simp at hy
 | true =>
  rw [hb] at hy
  simp only [cond_true, Option.map_eq_some_iff] at hy
  obtain ⟨l, hl, rfl⟩ := hy
  have hlen := Nat.eq_of_beq_eq_true hb
  have hargs : (parts.map fun p => (p.1, a.eval p.2)).toList = (parts.toList.map (·.1)).zip ((parts.toList.map (·.2)).map a.eval) := by
   simp only [Array.toList_map]
   rw [List.map_map]
   generalize parts.toList = pl
   induction pl with
   | nil => rfl
   | cons p pl ih => simp [ih]
  have hlen2 : (xs.map (·.ev T)).length = parts.toList.length := by rw [ex.length]; simp
  have hv2 : (xs.map (·.ev T)).length = ((parts.toList.map (·.2)).map a.eval).length /\ ∀ (k : Nat) (x : SV) (v : Value), (xs.map (·.ev T))[k]? = some x -> ((parts.toList.map (·.2)).map a.eval)[k]? = some v -> VR ρ H.size x v :=
   ⟨ex.length, ex.get⟩
  rcases hp with ⟨fields, hu, hpl, hso⟩ | ⟨len, e, m, hu, hs, rfl⟩
  ·obtain ⟨q1, q2⟩ := placesOf_ok _ _ hpl
   obtain ⟨arr, ha, hg⟩ := run_places (P := P) (w := w) fields hso
   obtain ⟨f1, f2, f3, _⟩ := fillS_ok (ρ := ρ) (n := H.size) (arr[·]?) (parts.toList.map (·.1)) ps (xs.map (·.ev T)) ((parts.toList.map (·.2)).map a.eval) z l (by simpa using q1) hlen
    (fun k i p hi hp' => by
     obtain ⟨f, hf, e1, e2⟩ := q2 k i p hi hp'
     rw [hg i f p.2 hf e2, <- e1]) hv2 hl okz fz
   refine ⟨conc ρ (.agg l), ?_, .of ⟨f2, f3⟩⟩
   have hrun : (Instr.build t (parts.map fun p => (p.1, a.eval p.2))).run P w = .ok (conc ρ (.agg l)) w := by
    simp only [Instr.build, Sem.run_bind, hv, Result.andThen_ok, run_underlying hu, ha, hc]
    rw [hargs, f1]
    simp [conc, concL_eq]
   simp only [execOp, hop, Sem.run_bind]
   rw [show (parts.map fun x => match x with | (i, x) => (i, a.eval x)) = parts.map fun p => (p.1, a.eval p.2) from rfl, hrun]
   rfl
  ·obtain ⟨f1, f2, f3, _⟩ := fillS_ok (ρ := ρ) (n := H.size) (fun i => some (i * m, m)) (parts.toList.map (·.1)) _ (xs.map (·.ev T)) ((parts.toList.map (·.2)).map a.eval) z l (by simp) hlen
    (fun k i p hi hp' => by
     simp only [List.getElem?_map, Option.map_eq_some_iff] at hi hp'
     obtain ⟨x, hx, rfl⟩ := hi
     obtain ⟨x', hx', rfl⟩ := hp'
     rw [hx] at hx'; cases hx'; rfl) hv2 hl okz fz
   refine ⟨conc ρ (.agg l), ?_, .of ⟨f2, f3⟩⟩
   have hrun : (Instr.build t (parts.map fun p => (p.1, a.eval p.2))).run P w = .ok (conc ρ (.agg l)) w := by
    simp only [Instr.build, Sem.run_bind, hv, Result.andThen_ok, run_underlying hu, run_sizeT hs, hc]
    rw [hargs, f1]
    simp [conc, concL_eq]
   simp only [execOp, hop, Sem.run_bind]
   rw [show (parts.map fun x => match x with | (i, x) => (i, a.eval x)) = parts.map fun p => (p.1, a.eval p.2) from rfl, hrun]
   rfl
theorem maxFrom_ok (k : IntKind) : ∀ (xs : List SV) (vs : List Value) (n : Int) (z : SV), VRL ρ H.size xs vs -> maxFrom k n xs = some z -> (vs.foldlM Builtin.max2 (.int k n)).run P w = .ok (conc ρ z) w /\ okSV ρ H.size z
 | [], [], n, z, _, hz => by simp [maxFrom] at hz; subst hz; simp [conc, okSV]
 | x :: xs, v :: vs, n, z, hv, hz => by
  simp only [VRL] at hv
  cases x <;> simp only [maxFrom] at hz <;> (try cases hz)
  have := hv.1.int_of
  subst this
  obtain ⟨h1, h2⟩ := maxFrom_ok k xs vs _ z hv.2 hz
  refine ⟨?_, h2⟩
  simp only [List.foldlM_cons, Builtin.max2, Sem.run_bind, Sem.run_pure, Result.andThen_ok]
  exact h1
 | [], _ :: _, _, _, hv, _ => by simp [VRL] at hv
 | _ :: _, [], _, _, hv, _ => by simp [VRL] at hv
theorem minFrom_ok (k : IntKind) : ∀ (xs : List SV) (vs : List Value) (n : Int) (z : SV), VRL ρ H.size xs vs -> minFrom k n xs = some z -> (vs.foldlM Builtin.min2 (.int k n)).run P w = .ok (conc ρ z) w /\ okSV ρ H.size z
 | [], [], n, z, _, hz => by simp [minFrom] at hz; subst hz; simp [conc, okSV]
 | x :: xs, v :: vs, n, z, hv, hz => by
  simp only [VRL] at hv
  cases x <;> simp only [minFrom] at hz <;> (try cases hz)
  have := hv.1.int_of
  subst this
  obtain ⟨h1, h2⟩ := minFrom_ok k xs vs _ z hv.2 hz
  refine ⟨?_, h2⟩
  simp only [List.foldlM_cons, Builtin.min2, Sem.run_bind, Sem.run_pure, Result.andThen_ok]
  exact h1
 | [], _ :: _, _, _, hv, _ => by simp [VRL] at hv
 | _ :: _, [], _, _, hv, _ => by simp [VRL] at hv
theorem A_max {o : Oper} {args : Array Operand} {ts : Array TypeId} {xs : List Opd} (hop : o.op = .call { callee := .builtin .max, args := args, argTypes := ts }) (hx : opds h args.toList = some xs)
  (hr : TRel cx ρ lam h.isLoc h.derOf H w T a) {z : SV} (hz : opP .max (xs.map (·.ev T)) = some z) : RunsTo P ρ H.size a w o z := by
 have ex := ev_opds hr hx
 simp only [opP] at hz
 generalize xs.map (·.ev T) = sx at *
 cases sx with
 | nil => simp [maxI] at hz
 | cons x sx =>
  cases x <;> simp only [maxI] at hz <;> (try cases hz)
  cases he : args.toList.map a.eval with
  | nil => rw [he] at ex; simp [VRL] at ex
  | cons v vs =>
   rw [he] at ex
   simp only [VRL] at ex
   have := ex.1.int_of
   subst this
   obtain ⟨h1, h2⟩ := maxFrom_ok (P := P) (w := w) _ _ _ _ _ ex.2 hz
   refine ⟨_, ?_, .of h2⟩
   simp [execOp, hop, resolve, invoke, builtin, Builtin.max_, he, h1]
theorem A_min {o : Oper} {args : Array Operand} {ts : Array TypeId} {xs : List Opd} (hop : o.op = .call { callee := .builtin .min, args := args, argTypes := ts }) (hx : opds h args.toList = some xs)
  (hr : TRel cx ρ lam h.isLoc h.derOf H w T a) {z : SV} (hz : opP .min (xs.map (·.ev T)) = some z) : RunsTo P ρ H.size a w o z := by
 have ex := ev_opds hr hx
 simp only [opP] at hz
 generalize xs.map (·.ev T) = sx at *
 cases sx with
 | nil => simp [minI] at hz
 | cons x sx =>
  cases x <;> simp only [minI] at hz <;> (try cases hz)
  cases he : args.toList.map a.eval with
  | nil => rw [he] at ex; simp [VRL] at ex
  | cons v vs =>
   rw [he] at ex
   simp only [VRL] at ex
   have := ex.1.int_of
   subst this
   obtain ⟨h1, h2⟩ := minFrom_ok (P := P) (w := w) _ _ _ _ _ ex.2 hz
   refine ⟨_, ?_, .of h2⟩
   simp [execOp, hop, resolve, invoke, builtin, Builtin.min_, he, h1]
end
end Go.Sh

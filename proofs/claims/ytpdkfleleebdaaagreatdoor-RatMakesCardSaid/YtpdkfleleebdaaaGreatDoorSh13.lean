/- append, copy, slice literals, bytes of a string. -/
import Derived.Test.YtpdkfleleebdaaaGreatDoorSh12
set_option linter.unusedVariables false
set_option linter.unusedSimpArgs false
namespace Go.Sh
open Go
section
variable {P : Program} {h : Hints} {cx : Ctx} {ρ : Place} {lam : Nat -> Nat} {T : Tmps} {H : Heap} {a : Act} {w : World}
theorem zeroOf_ok {t : TypeId} {z : List SV} (ρ : Place) (n : Nat) (hz : zeroOf P t = some z) : ∃ (v : Value) (i : TypeInfo), P.info? t = some i /\ i.zero = some v /\ i.size = z.length /\ v.cells = (z.map (conc ρ)).toArray /\ okL ρ n z /\ z.all SV.flat = true /\ 
  (∀ w, (zeroValue t).run P w = .ok v w) /\ sizeT P t = some z.length := by
 simp only [zeroOf, Option.bind_eq_some_iff] at hz
 obtain ⟨z', hz, m, hn, he⟩ := hz
 split at he <;> simp at he
 subst he
 rename_i hl
 obtain ⟨v, hv, hc, okz, fz, i, hi, hiz⟩ := zeroT_ok (P := P) (w := default) (ρ := ρ) n hz
 refine ⟨v, i, hi, hiz, ?_, hc, okz, fz, fun w => by simp [zeroValue, typeInfo, hi, hiz], by rw [hl]; exact hn⟩
 simp only [sizeT, hi, Option.map_some, Option.some.injEq] at hn; omega
theorem E_build {o : Oper} {t e : TypeId} {len : Nat} {parts : Array (Nat × Operand)} {xs : List Opd} {z : List SV} {y : SV} {H' : Heap} (hop : o.op = .buildSlice t len parts) (ht : P.underlying t = some (.slice e)) (hz0 : zeroOf P e = some z) (hzl : 0 < z.length)
  (hx : opds h (parts.toList.map (·.2)) = some xs) (hr : Rel P h cx ρ lam T H a w) (hz : opE (.build z.length (repeatL len z) (parts.toList.map fun p => (p.1 * z.length, z.length))) (xs.map (·.ev T)) H = some (y, H')) :
  Does P h cx a w o (setD T o.dst y) H' := by
 have ex := ev_opds hr.tmps hx
 obtain ⟨v, i, hi, hiz, hsz, hcv, okz, fz, hv, hs⟩ := zeroOf_ok (P := P) ρ H.size hz0
 simp only [opE] at hz
 cases hb : (Nat.beq (parts.toList.map fun p => (p.1 * z.length, z.length)).length (xs.map (·.ev T)).length && Nat.ble 1 z.length && Nat.ble (repeatL len z).length 1000000) with
 | false => rw [hb] at hz; simp at hz
 | true =>
  rw [hb] at hz
  simp only [cond_true, Option.map_eq_some_iff] at hz
  obtain ⟨l, hl, he⟩ := hz
  simp only [Prod.mk.injEq] at he
  obtain ⟨rfl, rfl⟩ := he
  simp only [Bool.and_eq_true] at hb
  have hlen := Nat.eq_of_beq_eq_true hb.1.1
  have hbig : len * z.length <= 1000000 := by rw [<- repeatL_length]; exact Nat.le_of_ble_eq_true hb.2
  have hargs : (parts.map fun p => (p.1, a.eval p.2)).toList = (parts.toList.map (·.1)).zip ((parts.toList.map (·.2)).map a.eval) := by
   simp only [Array.toList_map]
   rw [List.map_map]
   generalize parts.toList = pl
   induction pl with
   | nil => rfl
   | cons p pl ih => simp [ih]
  have okr : okL ρ H.size (repeatL len z) := (okL_iff _ _ _).2 fun v hv => (okL_iff _ _ _).1 okz v (repeatL_mem v hv)
  have fr : (repeatL len z).all SV.flat = true := List.all_eq_true.2 fun v hv => List.all_eq_true.1 fz v (repeatL_mem v hv)
  obtain ⟨f1, f2, f3, f4⟩ := fillS_ok (ρ := ρ) (n := H.size) (fun i => some (i * z.length, z.length)) (parts.toList.map (·.1)) _ (xs.map (·.ev T)) ((parts.toList.map (·.2)).map a.eval) (repeatL len z) l (by simp) hlen
   (fun k i p hi hp' => by
    simp only [List.getElem?_map, Option.map_eq_some_iff] at hi hp'
    obtain ⟨x, hx, rfl⟩ := hi
    obtain ⟨x', hx', rfl⟩ := hp'
    rw [hx] at hx'; cases hx'; rfl) ⟨ex.length, ex.get⟩ hl okr fr
  rw [repeatL_length] at f4
  have hrun : (Instr.buildSlice t len (parts.map fun p => (p.1, a.eval p.2))).run P w = .ok (.slice (some ⟨w.heap.size, 0, none⟩) len len) (w.alloc (.cells (l.map (conc ρ)).toArray e)) := by
   by_cases h0 : len * z.length = 0
   ·have hl0 : repeatL len z = [] := List.eq_nil_of_length_eq_zero (by rw [repeatL_length]; exact h0)
    rw [hl0] at f1
    simp only [Instr.buildSlice, Sem.run_bind, run_underlying ht, run_sizeT hs, Result.andThen_ok]
    simp only [h0, Sem.run_ite]
    simp only [Nat.reducePow, gt_iff_lt, Nat.not_lt_zero, if_false, Sem.run_pure, Result.andThen_ok, if_true, hargs, Array.range_zero', Array.map_empty]
    simp only [List.map_nil] at f1
    rw [f1]
    simp [Go.newRow]
   ·have hm := made_eq (ρ := ρ) hcv hzl len
    simp only [Instr.buildSlice, Sem.run_bind, run_underlying ht, run_sizeT hs, Result.andThen_ok]
    have hnb : ¬ (16777216 < len * z.length) := by omega
    simp only [Sem.run_ite, Nat.reducePow, gt_iff_lt, hnb, if_false, Sem.run_pure, Result.andThen_ok, h0, Sem.run_bind, hv, hm, hargs, f1]
    simp [Go.newRow]
  have := push_new hr (w' := w.alloc (.cells (l.map (conc ρ)).toArray e)) ⟨rfl, rfl, rfl⟩ (by simp) (fun b hb => heap_alloc_old w _ b hb) (heap_alloc_new w _) z.length l (by simp) (fun j x hx => by simp [hx]) f2 f3 (unfrozen_zero _ _)
  have hq : (repeatL len z).length / z.length = len := by rw [repeatL_length]; exact Nat.mul_div_cancel _ hzl
  have hcap : capC (upd ρ H.size ⟨w.heap.size, 0, (l.map (conc ρ)).toArray.size, z.length⟩) ⟨some (H.size, 0), (repeatL len z).length / z.length, none, 0⟩ = len := by
   simp only [capC, upd_new, Nat.sub_zero]
   simp only [List.size_toArray, List.length_map, f4]
   exact Nat.mul_div_cancel _ hzl
  refine Does.heap (v := .slice (some ⟨w.heap.size, 0, none⟩) len len) ?_ this (.inr ⟨?_, ?_⟩)
  ·simp only [execOp, hop, Sem.run_bind]
   rw [show (parts.map fun x => match x with | (i, x) => (i, a.eval x)) = parts.map fun p => (p.1, a.eval p.2) from rfl, hrun]
   rfl
  ·simp only [okSV]
   exact ⟨fun p hp => by simp at hp; subst hp; simp [Heap.size_push], by rw [hcap, hq]; exact Nat.le_refl _⟩
  ·simp only [conc]
   rw [hcap, hq]
   simp [baseC, addrOf, upd_new]
theorem elems_ok (hr : HRel cx ρ H w) {sz : Nat} {x : Sl} {cs : List SV} (hok : okSV ρ H.size (.slice x)) (hc : H.elems sz x = some cs) (n : Nat) (hn : n = x.len) :
  (Builtin.firstCells sz n (conc ρ (.slice x))).run P w = .ok (cs.map (conc ρ)).toArray w /\ okL ρ H.size cs /\ cs.all SV.flat = true /\ cs.length = n * sz := by
 subst hn
 simp only [okSV] at hok
 unfold Heap.elems at hc
 cases hz0 : Nat.beq x.len 0 with
 | true =>
  rw [hz0] at hc
  simp only [cond_true, Option.some.injEq] at hc
  have h0 := Nat.eq_of_beq_eq_true hz0
  subst hc
  cases hb : x.base with
  | none => exact ⟨by simp [conc, hb, run_firstCells_none], by simp [okL], by simp, by simp [h0]⟩
  | some p => exact ⟨by simp [conc, hb, h0, Builtin.firstCells, loadCells, loadCellsFrom], by simp [okL], by simp, by simp [h0]⟩
 | false =>
 rw [hz0] at hc
 simp only [cond_false] at hc
 cases hb : x.base with
 | none => simp [hb] at hc
 | some p =>
  obtain ⟨r, o⟩ := p
  simp only [hb] at hc
  obtain ⟨h1, h2, h3, h4⟩ := read_ok hr hc
  refine ⟨?_, h2, h3, h4⟩
  by_cases h0 : x.len = 0
  ·have : cs = [] := List.eq_nil_of_length_eq_zero (by simp [h4, h0])
   subst this
   simp [conc, hb, h0, Builtin.firstCells, loadCells, loadCellsFrom]
  ·have hcap : capC ρ x ≠ 0 := by omega
   simp only [conc, hb, Option.map_some, baseC, hcap, if_false, addrOf]
   exact run_firstCells_some (P := P) w sz x.len _ _ _ (cs.map (conc ρ)) (by simp [h4]) (fun j v hj => by
    simp only [List.getElem?_map, Option.map_eq_some_iff] at hj
    obtain ⟨u, hu, rfl⟩ := hj
    rw [Addr.add_lit]
    exact h1 j u hu)
theorem HRel.drew (hr : HRel cx ρ H w) : HRel cx ρ H w.drew := hr.world ⟨rfl, rfl, rfl⟩ (Nat.le_refl _) (fun _ _ => rfl) (fun _ _ _ _ => rfl)
theorem Rel.drew (hr : Rel P h cx ρ lam T H a w) : Rel P h cx ρ lam T H a w.drew :=
 ⟨hr.heap.drew, hr.tmps.heap (fun _ _ => rfl) (Nat.le_refl _) (fun _ _ _ => rfl) hr.tmps.boxrow⟩
structure Src (P : Program) (ρ : Place) (H : Heap) (w : World) (u : TypeId) (sz n : Nat) (X : Value) (src : List SV) : Prop where
 noint : (∃ e, P.underlying u = some (.slice e)) \/ P.underlying u = some .string
 len : ∀ w, (Builtin.lenOf X).run P w = .ok n w
 cells : (Builtin.firstCells sz n X).run P w = .ok (src.map (conc ρ)).toArray w
 cells' : (Builtin.firstCells sz n X).run P w.drew = .ok (src.map (conc ρ)).toArray w.drew
 ok : okL ρ H.size src
 flat : src.all SV.flat = true
 length : src.length = n * sz
theorem run_append_in {t u ty e : TypeId} {i : TypeInfo} (ht : P.underlying t = some (.slice e)) (hi : P.info? e = some i) {n sLen sCap : Nat} {X : Value} {src : List SV} (hsrc : Src P ρ H w u i.size n X src) (hroom : sLen + n <= sCap)
  (base : Option Addr) {w' : World} (hst : ∀ b, base = some b -> (storeCells (b.add (sLen * i.size)) (src.map (conc ρ))).run P w = .ok () w') (hno : base = none -> w' = w) :
  (Builtin.append_ #[t, u] ty #[.slice base sLen sCap, X]).run P w = .ok (.slice base (sLen + n) sCap) w' := by
 have hl := hsrc.len w
 have hf := hsrc.cells
 rcases hsrc.noint with ⟨e', hu⟩ | hu
 ·cases base with
  | none =>
   have := hno rfl
   subst this
   simp [Builtin.append_, run_underlying ht, run_underlying hu, sizeOf, typeInfo, hi, hl, hroom, hf]
  | some b =>
   have := hst b rfl
   simp [Builtin.append_, run_underlying ht, run_underlying hu, sizeOf, typeInfo, hi, hl, hroom, hf, this]
 ·cases base with
  | none =>
   have := hno rfl
   subst this
   simp [Builtin.append_, run_underlying ht, run_underlying hu, sizeOf, typeInfo, hi, hl, hroom, hf]
  | some b =>
   have := hst b rfl
   simp [Builtin.append_, run_underlying ht, run_underlying hu, sizeOf, typeInfo, hi, hl, hroom, hf, this]
theorem run_append_new {t u ty e : TypeId} {i : TypeInfo} {z : Value} (ht : P.underlying t = some (.slice e)) (hi : P.info? e = some i) (hz : i.zero = some z) {n sLen sCap : Nat} {X : Value} {src : List SV} (hsrc : Src P ρ H w u i.size n X src)
  (hgrow : sCap < sLen + n) (base : Option Addr) {olds : List Value} (hold : (Builtin.firstCells i.size sLen (.slice base sLen sCap)).run P w.drew = .ok olds.toArray w.drew) (h63 : ((sLen + n : Nat) : Int) <= 9223372036854775807)
  (hfit : Builtin.nextslicecap (sLen + n) sCap * i.bytes <= 281474976710656) :
  (Builtin.append_ #[t, u] ty #[.slice base sLen sCap, X]).run P w =
   .ok (.slice (some ⟨w.heap.size, 0, none⟩) (sLen + n) (grownCap w (sLen + n) sCap e))
    (w.drew.alloc (.cells (olds.toArray ++ (src.map (conc ρ)).toArray ++ Builtin.zeroCells z.cells (grownCap w (sLen + n) sCap e - (sLen + n))) e)) := by
 have hl := hsrc.len w
 have hf := hsrc.cells'
 have hn : ¬ (sLen + n <= sCap) := by omega
 have h63' : ¬ (9223372036854775807 < ((sLen : Int) + (n : Int))) := by omega
 have h48' : ¬ (281474976710656 < Builtin.nextslicecap (sLen + n) sCap * i.bytes) := by omega
 generalize hx : src.map (conc ρ) = news at *
 have hassoc : ∀ (x y z : Array Value), x ++ y ++ z = x ++ (y ++ z) := fun x y z => Array.append_assoc
 rw [hassoc]
 rcases hsrc.noint with ⟨e', hu⟩ | hu
 ·simp [Builtin.append_, run_underlying ht, run_underlying hu, sizeOf, typeInfo, zeroValue, hi, hz, hl, hn, h63', h48', Question.forced, hf, hold, Go.newRow, grownCap]
 ·simp [Builtin.append_, run_underlying ht, run_underlying hu, sizeOf, typeInfo, zeroValue, hi, hz, hl, hn, h63', h48', Question.forced, hf, hold, Go.newRow, grownCap]
theorem E_append {o : Oper} {t u e : TypeId} {s x : Operand} {by_ : Nat} {z : List SV} {src : List SV} {n : Nat} {sl : Sl} {y : SV} {H' : Heap} (hop : o.op = .call { callee := .builtin .append, args := #[s, x], argTypes := #[t, u] })
  (ht : P.underlying t = some (.slice e)) (hz0 : zeroOf P e = some z) (hb : bytesT P e = some by_) (es : VR ρ H.size (.slice sl) (a.eval s)) (hsrc : Src P ρ H w u z.length n (a.eval x) src)
  (hr : Rel P h cx ρ lam T H a w) (hz : appendOp H z.length by_ sl n src = some (y, H')) : Does P h cx a w o (setD T o.dst y) H' := by
 obtain ⟨v, i, hi, hiz, hsz, hcv, okz, fz, hv, hs⟩ := zeroOf_ok (P := P) ρ H.size hz0
 have hby : i.bytes = by_ := by simpa [bytesT, hi] using hb
 obtain ⟨o1, e1⟩ := es.ne (by simp)
 have o1' := o1
 simp only [okSV] at o1
 rw [<- hsz] at hsrc
 have hzc : v.cells.size = z.length := by rw [hcv]; simp
 have hwrap : ∀ v' w', (Builtin.append_ #[t, u] o.type #[a.eval s, a.eval x]).run P w = .ok v' w' -> (execOp a.eval o).run P w = .ok (.value v') w' := fun v' w' hx => by
  simp [execOp, hop, resolve, invoke, builtin, hx]
 unfold appendOp at hz
 cases hc1 : (Nat.ble 1 z.length && roomy (sl.len + n) by_) with
 | false => rw [hc1] at hz; simp at hz
 | true =>
  rw [hc1] at hz
  simp only [cond_true] at hz
  simp only [Bool.and_eq_true] at hc1
  have hzl : 0 < z.length := Nat.le_of_ble_eq_true hc1.1
  have hroom : (4 * (sl.len + n) + 4096) * (by_ + 1) <= 70368744177664 := by have := hc1.2; rw [roomy, Nat.ble_eq] at this; exact this
  have hbytes : (sl.len + n) * i.bytes <= 70368744177664 := by
   have h5 : (sl.len + n) * by_ <= (4 * (sl.len + n) + 4096) * (by_ + 1) := Nat.le_trans (Nat.mul_le_mul_left _ (Nat.le_succ _)) (Nat.mul_le_mul_right _ (by omega))
   rw [hby]; exact Nat.le_trans h5 hroom
  have hsmall : sl.len + n <= 70368744177664 := by
   have h5 : (sl.len + n) * 1 <= (4 * (sl.len + n) + 4096) * (by_ + 1) := Nat.le_trans (Nat.mul_le_mul_left _ (Nat.succ_le_succ (Nat.zero_le _))) (Nat.mul_le_mul_right _ (by omega))
   rw [<- Nat.mul_one (sl.len + n)]; exact Nat.le_trans h5 hroom
  clear hroom
  have hfits : ∀ c, c < sl.len + n -> Builtin.nextslicecap (sl.len + n) c * i.bytes <= 281474976710656 := fun c hc => growslice_fits hc (by omega)
  have hge : ∀ c, sl.len + n <= grownCap w (sl.len + n) c e := fun c => grownCap_ge w (sl.len + n) c e
  have newcase : ∀ (c : Nat) (base : Option Addr) (olds : List SV) (H1 : Heap), a.eval s = .slice base sl.len c -> c < sl.len + n -> (Builtin.firstCells i.size sl.len (.slice base sl.len c)).run P w.drew = .ok (olds.map (conc ρ)).toArray w.drew ->
    okL ρ H.size olds -> olds.all SV.flat = true -> olds.length = sl.len * z.length -> Rel P h cx ρ lam T H1 a w -> H1.size = H.size ->
    Does P h cx a w o (setD T o.dst (.slice ⟨some (H.size, 0), sl.len + n, none, 0⟩)) (H1.push (newRow z.length (olds ++ src))) := by
   intro c base olds H1 he hc hf oko fo hlo hr1 hs1
   have hrun := run_append_new (P := P) (ρ := ρ) (H := H) (w := w) (ty := o.type) ht hi hiz hsrc hc base hf (by omega) (hfits c hc)
   have hsrcl := hsrc.length
   have hasz : ((olds.map (conc ρ)).toArray ++ (src.map (conc ρ)).toArray ++ Builtin.zeroCells v.cells (grownCap w (sl.len + n) c e - (sl.len + n))).size = grownCap w (sl.len + n) c e * z.length := by
    simp only [Array.size_append, List.size_toArray, List.length_map, size_zeroCells, hzc, hlo, hsrcl, hsz, <- Nat.add_mul]
    congr 1
    have := hge c
    omega
   have hget : ∀ (j : Nat) (x : SV), (olds ++ src)[j]? = some x -> ((olds.map (conc ρ)).toArray ++ (src.map (conc ρ)).toArray ++ Builtin.zeroCells v.cells (grownCap w (sl.len + n) c e - (sl.len + n)))[j]? = some (conc ρ x) := fun j x hx => by
    have hj : j < (olds ++ src).length := (List.getElem?_eq_some_iff.1 hx).1
    rw [Array.getElem?_append_left (by simp at hj ⊢; omega)]
    rw [List.append_toArray, <- List.map_append]
    rw [List.getElem?_toArray, List.getElem?_map, hx]
    rfl
   have hle : (olds ++ src).length <= ((olds.map (conc ρ)).toArray ++ (src.map (conc ρ)).toArray ++ Builtin.zeroCells v.cells (grownCap w (sl.len + n) c e - (sl.len + n))).size := by
    rw [hasz]; simp only [List.length_append, hlo, hsrcl, hsz, <- Nat.add_mul]
    exact Nat.mul_le_mul_right _ (hge c)
   have hap := push_new hr1.drew (w' := w.drew.alloc (.cells _ e)) ⟨rfl, rfl, rfl⟩ (by simp) (fun b hb => heap_alloc_old w.drew _ b hb) (heap_alloc_new w.drew _) z.length (olds ++ src) hle hget
    ((okL_iff _ _ _).2 fun x hx => by
     rw [hs1]
     rcases List.mem_append.1 hx with hx | hx
     ·exact (okL_iff _ _ _).1 oko x hx
     ·exact (okL_iff _ _ _).1 hsrc.ok x hx) (by rw [List.all_append, fo, hsrc.flat]; rfl) (unfrozen_zero _ _)
   rw [hs1] at hap
   have hcap : capC (upd ρ H.size ⟨w.drew.heap.size, 0, ((olds.map (conc ρ)).toArray ++ (src.map (conc ρ)).toArray ++ Builtin.zeroCells v.cells (grownCap w (sl.len + n) c e - (sl.len + n))).size, z.length⟩) ⟨some (H.size, 0), sl.len + n, none, 0⟩ = grownCap w (sl.len + n) c e := by
    simp only [capC, upd_new, Nat.sub_zero]
    rw [hasz]
    exact Nat.mul_div_cancel _ hzl
   refine Does.heap (v := .slice (some ⟨w.heap.size, 0, none⟩) (sl.len + n) (grownCap w (sl.len + n) c e)) ?_ hap (.inr ⟨?_, ?_⟩)
   ·exact hwrap _ _ (by rw [he]; exact hrun)
   ·simp only [okSV]
    exact ⟨fun p hp => by simp at hp; subst hp; simp [Heap.size_push, hs1], by rw [hcap]; exact hge c⟩
   ·simp only [conc, hcap]
    simp [baseC, addrOf, upd_new]
  cases hn0 : Nat.beq n 0 with
  | true =>
   have hn := Nat.eq_of_beq_eq_true hn0
   subst hn
   rw [hn0] at hz
   simp only [cond_true, Option.some.injEq, Prod.mk.injEq] at hz
   obtain ⟨rfl, rfl⟩ := hz
   have hsn : src = [] := List.eq_nil_of_length_eq_zero (by rw [hsrc.length]; simp)
   subst hsn
   have he : a.eval s = .slice (sl.base.map (baseC ρ (capC ρ sl) sl.alt)) sl.len (capC ρ sl) := by rw [e1]; rfl
   have hrun := run_append_in (P := P) (ρ := ρ) (H := H) (w := w) (ty := o.type) (sLen := sl.len) (sCap := capC ρ sl) ht hi hsrc (by have := o1.2; omega) (sl.base.map (baseC ρ (capC ρ sl) sl.alt)) (w' := w) (fun b hb => by simp [storeCells]) (fun _ => rfl)
   refine Does.heap (v := conc ρ (.slice sl)) ?_ hr (.of o1')
   exact hwrap _ _ (by rw [he]; exact hrun)
  | false =>
  have hn : n ≠ 0 := by rintro rfl; simp at hn0
  rw [hn0] at hz
  simp only [cond_false] at hz
  cases hbase : sl.base with
  | none =>
   simp only [hbase] at hz
   cases hc2 : (Nat.beq sl.len 0 && capZero sl.cap) with
   | false => rw [hc2] at hz; simp at hz
   | true =>
    rw [hc2] at hz
    simp only [cond_true, Option.some.injEq, Prod.mk.injEq] at hz
    obtain ⟨rfl, rfl⟩ := hz
    simp only [Bool.and_eq_true] at hc2
    have hl0 := Nat.eq_of_beq_eq_true hc2.1
    have hcap0 : capC ρ sl = 0 := by
     unfold capC
     cases hcc : sl.cap with
     | none => simp [hbase]
     | some c => simp [hcc, capZero] at hc2; exact hc2.2
    have he : a.eval s = .slice none sl.len 0 := by rw [e1]; simp [conc, hbase, hcap0]
    have := newcase 0 none [] H he (by omega) (by simp [run_firstCells_none]) (by simp [okL]) (by simp) (by simp [hl0]) hr rfl
    rw [hl0] at this
    simpa using this
  | some p =>
   obtain ⟨r, off⟩ := p
   simp only [hbase] at hz
   cases hg : H.get r with
   | none => simp [hg] at hz
   | some row =>
    simp only [hg] at hz
    cases hc2 : (Nat.beq row.kind 2 && Nat.beq row.esz z.length && Nat.beq (off % z.length) 0 && capRoom sl.cap (sl.len + n) off z.length row.cells.length) with
    | false => rw [hc2] at hz; simp at hz
    | true =>
     rw [hc2] at hz
     simp only [cond_true, Option.map_eq_some_iff] at hz
     obtain ⟨old, hcut, hz⟩ := hz
     simp only [Prod.mk.injEq] at hz
     obtain ⟨rfl, rfl⟩ := hz
     simp only [Bool.and_eq_true] at hc2
     obtain ⟨⟨⟨hk2, hesz⟩, hmod⟩, hcapk⟩ := hc2
     have hk2 := Nat.eq_of_beq_eq_true hk2
     have hesz := Nat.eq_of_beq_eq_true hesz
     have hrow := hr.heap.rows r row hg (by omega)
     have hread : H.elems z.length sl = some old := by
      have hb02 : Nat.beq 2 0 = false := rfl
      unfold Heap.elems
      cases hl0 : Nat.beq sl.len 0 with
      | true =>
       have h00 := Nat.eq_of_beq_eq_true hl0
       have : old = [] := List.eq_nil_of_length_eq_zero (by rw [(cut_get hcut).1, h00]; simp)
       rw [this]; rfl
      | false => simp [hbase, Heap.read, hg, hk2, hcut, hb02]
     obtain ⟨f1, f2, f3, f4⟩ := elems_ok (P := P) hr.heap.drew o1' hread sl.len rfl
     have hrk := kill_row hr hg
     have hks : (H.kill r row).size = H.size := rfl
     by_cases hin : sl.len + n <= capC ρ sl
     ·
      have hc0 : capC ρ sl ≠ 0 := by omega
      obtain ⟨arr, E, mk, hb1, hb2, hb3, hb4⟩ := hrow.blk
      have hfit := hrow.fits
      have hcut' := cut_get hcut
      have hcutk := (cut_ok hcut).1
      have he : a.eval s = .slice (some ⟨(ρ r).block, (ρ r).off + off, none⟩) sl.len (capC ρ sl) := by
       rw [e1]; simp [conc, hbase, baseC, hc0, addrOf]
      have hsrcl := hsrc.length
      have hfull : off + (sl.len + n) * z.length <= (ρ r).ext /\ ∃ ext', ext' / z.length = capC ρ sl /\ (sl.len + n) * z.length <= ext' /\ off + ext' <= (ρ r).ext := by
       cases hcc : sl.cap with
       | none =>
        have hcv : capC ρ sl = ((ρ r).ext - off) / z.length := by simp only [capC, hcc, hbase]; rw [hrow.esz, hesz]
        have hmul : (sl.len + n) * z.length <= (ρ r).ext - off := by
         rw [hcv] at hin
         exact Nat.le_trans (Nat.mul_le_mul_right _ hin) (Nat.div_mul_le_self _ _)
        have hpos : 0 < (sl.len + n) * z.length := Nat.mul_pos (by omega) hzl
        exact ⟨by omega, (ρ r).ext - off, hcv.symm, hmul, by omega⟩
       | some c =>
        have hcv : capC ρ sl = c := by simp only [capC, hcc]
        rw [hcc] at hcapk
        simp only [capRoom, Bool.or_eq_true] at hcapk
        rcases hcapk with h | h
        ·rw [Nat.blt_eq] at h; omega
        ·have h1 := Nat.le_of_ble_eq_true h
         have h2 : (sl.len + n) * z.length <= c * z.length := Nat.mul_le_mul_right _ (by omega)
         exact ⟨by omega, c * z.length, by rw [hcv]; exact Nat.mul_div_cancel _ hzl, h2, by omega⟩
      obtain ⟨hf1, ext', hx1, hx2, hx3⟩ := hfull
      have hstore : off + sl.len * z.length + src.length <= (ρ r).ext := by rw [hsrcl, hsz]; rw [Nat.add_mul] at hf1; omega
      have hwr := run_write (P := P) (w := w) (ρ := ρ) (b := (ρ r).block) (off := (ρ r).off + off + sl.len * z.length) hb1 (vs := src) (by omega) (fun j hj1 hj2 => hb4 hk2 j (by omega) (by omega)) hsrc.flat
      have hrun := run_append_in (P := P) (ρ := ρ) (H := H) (w := w) (ty := o.type) (sLen := sl.len) (sCap := capC ρ sl) ht hi hsrc hin (some ⟨(ρ r).block, (ρ r).off + off, none⟩) (fun b hb => by cases hb; rw [Addr.add_lit, hsz]; exact hwr) (fun hb => by cases hb)
      have hm := setCells_meta (ρ r).block (src.map (conc ρ)) ((ρ r).off + off + sl.len * z.length) w
      have hszw := setCells_size (ρ r).block (src.map (conc ρ)) ((ρ r).off + off + sl.len * z.length) w
      obtain ⟨arr', k1, k2, k3, k4, k5⟩ := setCells_heap_eq (ρ r).block (src.map (conc ρ)) ((ρ r).off + off + sl.len * z.length) w hb1 (by simp; omega)
      let l : Loc := ⟨(ρ r).block, (ρ r).off + off, ext', z.length⟩
      have hp := push_row hrk (w' := w.setCells (ρ r).block ((ρ r).off + off + sl.len * z.length) (src.map (conc ρ))) ⟨hm.1, hm.2.1, hm.2.2⟩ (by omega) l (newRow z.length (old ++ src)) rfl (fun b _ hb => setCells_heap_ne _ _ _ _ hb) (hr.heap.own r row hg hk2)
       (fun r' row' hg' hk' => by
        by_cases hrr : r = r'
        ·subst hrr
         rw [Heap.kill, Heap.get_set_self hg] at hg'
         cases hg'; simp at hk'
        ·rw [Heap.kill, Heap.get_set_ne _ hrr] at hg'
         exact (hr.heap.sep r r' row row' hg hg' hk2 hk' hrr).symm)
       (fun t cs ht' => (hr.tmps.boxrow t cs ht' r row hg (by omega)).symm)
       ⟨⟨arr', E, mk, k1, by simp only [l]; omega, fun j x hx => by
        simp only [newRow] at hx
        rw [List.getElem?_append] at hx
        simp only [l]
        split at hx
        ·rename_i hj
         rw [k3 _ (by omega)]
         have := (hcut'.2 j x hx).2
         rw [Nat.add_assoc]
         exact hb3 _ _ this
        ·rename_i hj
         have := k4 (j - old.length) (conc ρ x) (by simp [hx])
         rwa [show (ρ r).off + off + sl.len * z.length + (j - old.length) = (ρ r).off + off + j by omega] at this, fun _ j hj1 hj2 => hb4 hk2 j (by simp only [l] at hj1 hj2; omega) (by simp only [l] at hj1 hj2; omega)⟩,
        by simp only [newRow, l, List.length_append, f4, hsrcl, hsz]; rw [<- Nat.add_mul]; exact hx2, fun x hx => by
         simp only [newRow, List.mem_append] at hx
         rw [hks]
         rcases hx with hx | hx
         ·exact ⟨(okL_iff _ _ _).1 f2 x hx, List.all_eq_true.1 f3 x hx⟩
         ·exact ⟨(okL_iff _ _ _).1 hsrc.ok x hx, List.all_eq_true.1 hsrc.flat x hx⟩, rfl⟩
      rw [hks] at hp
      have hcap : capC (upd ρ H.size l) ⟨some (H.size, 0), sl.len + n, none, 0⟩ = capC ρ sl := by
       simp only [capC, upd_new, l, Nat.sub_zero]
       exact hx1
      refine Does.heap (v := .slice (some ⟨(ρ r).block, (ρ r).off + off, none⟩) (sl.len + n) (capC ρ sl)) ?_ hp (.inr ⟨?_, ?_⟩)
      ·exact hwrap _ _ (by rw [he]; exact hrun)
      ·simp only [okSV]
       exact ⟨fun p hp => by simp at hp; subst hp; simp [Heap.size_push, hks], by rw [hcap]; exact hin⟩
      ·simp only [conc, hcap]
       simp [baseC, addrOf, upd_new, l]
     ·
      exact newcase (capC ρ sl) _ old (H.kill r row) (by rw [e1]; rfl) (by omega) (by
       simp only [conc] at f1
       rw [hsz]; exact f1) f2 f3 f4 hrk rfl
theorem src_slice {u e : TypeId} {x : Operand} {sl : Sl} {sz : Nat} {src : List SV} (hu : P.underlying u = some (.slice e)) (ex : VR ρ H.size (.slice sl) (a.eval x)) (hr : HRel cx ρ H w) (hz : H.elems sz sl = some src) : Src P ρ H w u sz sl.len (a.eval x) src := by
 obtain ⟨o1, e1⟩ := ex.ne (by simp)
 obtain ⟨f1, f2, f3, f4⟩ := elems_ok (P := P) hr o1 hz sl.len rfl
 obtain ⟨g1, _, _, _⟩ := elems_ok (P := P) hr.drew o1 hz sl.len rfl
 rw [e1]
 exact ⟨.inl ⟨e, hu⟩, fun w => by simp [conc, Builtin.lenOf], f1, g1, f2, f3, f4⟩
theorem src_str {u : TypeId} {x : Operand} {s : List UInt8} (hu : P.underlying u = some .string) (ex : VR ρ H.size (.str s) (a.eval x)) : Src P ρ H w u 1 s.length (a.eval x) (s.map fun b => .int .u8 b.toNat) := by
 obtain ⟨o1, e1⟩ := ex.ne (by simp)
 rw [e1]
 have hx : ((ByteArray.mk s.toArray).extract 0 s.length).data.map (fun b : UInt8 => Value.int IntKind.u8 (b.toNat : Int)) = ((s.map fun b => SV.int .u8 b.toNat).map (conc ρ)).toArray := by
  apply Array.ext'
  simp [ByteArray.data_extract, conc, Function.comp_def]
 refine ⟨.inr hu, fun w => by simp [conc, Builtin.lenOf, ByteArray.size], ?_, ?_, ?_, ?_, by simp⟩
 ·simp only [conc, Builtin.firstCells]; rw [hx]; rfl
 ·simp only [conc, Builtin.firstCells]; rw [hx]; rfl
 ·rw [okL_iff]; intro v hv; simp only [List.mem_map] at hv; obtain ⟨b, _, rfl⟩ := hv; simp [okSV]
 ·rw [List.all_eq_true]; intro v hv; simp only [List.mem_map] at hv; obtain ⟨b, _, rfl⟩ := hv; rfl
theorem E_copy {o : Oper} {t u e : TypeId} {d x : Operand} {d' x' : Opd} {sz : Nat} {y : SV} {H' : Heap} (hop : o.op = .call { callee := .builtin .copy, args := #[d, x], argTypes := #[t, u] }) (ht : P.underlying t = some (.slice e)) (hs : sizeT P e = some sz)
  (hd : opd h d = some d') (hx : opd h x = some x') (hr : Rel P h cx ρ lam T H a w) (hz : opE (.copy sz) [d'.ev T, x'.ev T] H = some (y, H')) : Does P h cx a w o (setD T o.dst y) H' := by
 have ed := ev_opd hr.tmps hd
 have ex := ev_opd hr.tmps hx
 generalize d'.ev T = sd at *
 generalize x'.ev T = sx at *
 cases sd <;> cases sx <;> simp only [opE] at hz <;> (try cases hz)
 rename_i sl xl
 simp only [Option.bind_eq_some_iff] at hz
 obtain ⟨src, hsrc, hz⟩ := hz
 obtain ⟨o1, e1⟩ := ed.ne (by simp)
 obtain ⟨o2, e2⟩ := ex.ne (by simp)
 have o2' : okSV ρ H.size (.slice { xl with len := min xl.len sl.len }) := by
  simp only [okSV] at o2 ⊢
  refine ⟨o2.1, ?_⟩
  have : capC ρ { xl with len := min xl.len sl.len } = capC ρ xl := rfl
  rw [this]
  omega
 obtain ⟨f1, f2, f3, f4⟩ := elems_ok (P := P) hr.heap o2' hsrc (min xl.len sl.len) rfl
 have f1' : (Builtin.firstCells sz (Nat.min xl.len sl.len) (conc ρ (.slice xl))).run P w = .ok (src.map (conc ρ)).toArray w := by
  rw [<- f1]
  simp only [conc]
  have hcc : capC ρ { xl with len := min xl.len sl.len } = capC ρ xl := rfl
  rw [hcc]
  cases hb : xl.base with
  | none => rfl
  | some p => rfl
 have hwrap : ∀ v' w', (Builtin.copy_ #[t, u] o.type #[a.eval d, a.eval x]).run P w = .ok v' w' -> (execOp a.eval o).run P w = .ok (.value v') w' := fun v' w' hx => by
  simp [execOp, hop, resolve, invoke, builtin, hx]
 have hlen : ∀ w, (Builtin.lenOf (conc ρ (.slice xl))).run P w = .ok xl.len w := fun w => by simp [conc, Builtin.lenOf]
 cases hb : sl.base with
 | none =>
  simp only [hb, Option.some.injEq, Prod.mk.injEq] at hz
  obtain ⟨rfl, rfl⟩ := hz
  refine Does.heap (hwrap (.int .i64 (min xl.len sl.len : Nat)) w ?_) hr (.inr ⟨by simp [okSV], by simp [conc]⟩)
  rw [e1, e2]
  have : conc ρ (.slice sl) = .slice none sl.len (capC ρ sl) := by simp [conc, hb]
  rw [this]
  simp [Builtin.copy_, run_underlying ht, run_sizeT hs, hlen, f1', goInt]
 | some p =>
  obtain ⟨r, off⟩ := p
  simp only [hb, Option.map_eq_some_iff, Prod.mk.injEq] at hz
  obtain ⟨H1, hw, rfl, rfl⟩ := hz
  obtain ⟨w1, w2⟩ := write_row hr hw f2 f3
  by_cases h0 : capC ρ sl = 0
  ·simp only [okSV] at o1
   have hsrc0 : src = [] := List.eq_nil_of_length_eq_zero (by rw [f4]; have := o1.2; rw [show min xl.len sl.len = 0 by omega]; simp)
   subst hsrc0
   refine Does.heap (hwrap (.int .i64 (min xl.len sl.len : Nat)) w ?_) (by simpa [World.setCells] using w2) (.inr ⟨by simp [okSV], by simp [conc]⟩)
   rw [e1, e2]
   have : conc ρ (.slice sl) = .slice (some (baseC ρ (capC ρ sl) sl.alt (r, off))) sl.len (capC ρ sl) := by simp [conc, hb]
   rw [this]
   simp [Builtin.copy_, run_underlying ht, run_sizeT hs, hlen, f1', goInt, storeCells]
  ·refine Does.heap (hwrap (.int .i64 (min xl.len sl.len : Nat)) _ ?_) w2 (.inr ⟨by simp [okSV], by simp [conc]⟩)
   rw [e1, e2]
   have : conc ρ (.slice sl) = .slice (some ⟨(ρ r).block, (ρ r).off + off, none⟩) sl.len (capC ρ sl) := by simp [conc, hb, baseC, h0, addrOf]
   rw [this]
   simp [Builtin.copy_, run_underlying ht, run_sizeT hs, hlen, f1', goInt, w1]
end
end Go.Sh

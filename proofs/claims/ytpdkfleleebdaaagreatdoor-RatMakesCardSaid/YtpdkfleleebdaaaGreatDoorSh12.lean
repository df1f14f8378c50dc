/- Memory turned. -/
import Derived.Test.YtpdkfleleebdaaaGreatDoorSh11
set_option linter.unusedVariables false
set_option linter.unusedSimpArgs false
namespace Go.Sh
open Go
def upd (ρ : Place) (n : Nat) (l : Loc) : Place := fun i => if i = n then l else ρ i
theorem upd_old (ρ : Place) (n : Nat) (l : Loc) : ∀ i, i < n -> upd ρ n l i = ρ i := fun i hi => by simp [upd, Nat.ne_of_lt hi]
theorem upd_new (ρ : Place) (n : Nat) (l : Loc) : upd ρ n l n = l := by simp [upd]
section
variable {P : Program} {h : Hints} {cx : Ctx} {ρ : Place} {lam : Nat -> Nat} {T : Tmps} {H : Heap} {a : Act} {w : World}
theorem push_row (hr : Rel P h cx ρ lam T H a w) {w' : World} (hs : Same w w') (hsz : w.heap.size <= w'.heap.size) (l : Loc) (row : Row) (hk : row.kind = 2)
  (hold : ∀ b, b < w.heap.size -> b ≠ l.block -> w'.heap[b]? = w.heap[b]?) (hown : cx.own l.block \/ cx.w0.heap.size <= l.block)
  (hrows : ∀ r row', H.get r = some row' -> row'.kind ≠ 0 -> (ρ r).block ≠ l.block) (hboxes : ∀ t cs, T[t]? = some (.box cs) -> lam t ≠ l.block)
  (hrow : RowRel ρ H.size w' l row) : Rel P h cx (upd ρ H.size l) lam T (H.push row) a w' := by
 have hρ := upd_old ρ H.size l
 have hg : ∀ r row', (H.push row).get r = some row' -> (r = H.size /\ row' = row) \/ (r < H.size /\ H.get r = some row') := fun r row' hg => by
  by_cases e : r = H.size
  ·subst e; rw [Heap.get_push_self] at hg; cases hg; exact .inl ⟨rfl, rfl⟩
  ·rw [Heap.get_push_ne _ _ e] at hg; exact .inr ⟨Heap.get_lt hg, hg⟩
 refine ⟨⟨hs.os.trans hr.heap.os, hs.tape.trans hr.heap.tape, hs.output.trans hr.heap.output, Nat.le_trans hr.heap.size hsz, fun b hb hn => ?_, fun r row' hg' hk' => ?_, fun r row' hg' hk' => ?_, fun r r' row1 row2 hg1 hg2 hk1 hk2 hne => ?_, hr.heap.ext.push row hk, fun i hi => ?_⟩, ?_⟩
 ·rw [hold b (Nat.lt_of_lt_of_le hb hr.heap.size) (fun e => by
   rcases hown with h | h
   ·exact hn (e ▸ h)
   ·omega)]
  exact hr.heap.keep b hb hn
 ·rcases hg r row' hg' with ⟨rfl, rfl⟩ | ⟨h1, h2⟩
  ·rw [upd_new]; exact hrow.ext hρ (by simp [Heap.size_push])
  ·rw [hρ r h1]
   have := hr.heap.rows r row' h2 hk'
   exact (this.world (hold _ this.lt (hrows r row' h2 hk'))).ext hρ (by simp [Heap.size_push])
 ·rcases hg r row' hg' with ⟨rfl, rfl⟩ | ⟨h1, h2⟩
  ·rw [upd_new]; exact hown
  ·rw [hρ r h1]; exact hr.heap.own r row' h2 hk'
 ·rcases hg r row1 hg1 with ⟨rfl, rfl⟩ | ⟨h1, h2⟩
  ·rcases hg r' row2 hg2 with ⟨rfl, rfl⟩ | ⟨h3, h4⟩
   ·exact absurd rfl hne
   ·rw [upd_new, hρ r' h3]; exact (hrows r' row2 h4 hk2).symm
  ·rcases hg r' row2 hg2 with ⟨rfl, rfl⟩ | ⟨h3, h4⟩
   ·rw [upd_new, hρ r h1]; exact hrows r row1 h2 (by omega)
   ·rw [hρ r h1, hρ r' h3]; exact hr.heap.sep r r' row1 row2 h2 h4 hk1 hk2 hne
 ·rw [hρ i (Nat.lt_of_lt_of_le hi hr.heap.ext.size)]; exact hr.heap.old i hi
 ·refine hr.tmps.heap hρ (by simp [Heap.size_push]) (fun t cs ht => hold _ (hr.tmps.box t cs ht).lt (hboxes t cs ht)) (fun t cs ht r row' hg' hk' => ?_)
  rcases hg r row' hg' with ⟨rfl, rfl⟩ | ⟨h1, h2⟩
  ·rw [upd_new]; exact (hboxes t cs ht).symm
  ·rw [hρ r h1]; exact hr.tmps.boxrow t cs ht r row' h2 hk'
theorem push_new (hr : Rel P h cx ρ lam T H a w) {w' : World} (hs : Same w w') (hsz : w'.heap.size = w.heap.size + 1) {arr : Array Value} {E : TypeId} {mk : Nat × Nat} (hold : ∀ b, b < w.heap.size -> w'.heap[b]? = w.heap[b]?)
  (hnew : w'.heap[w.heap.size]? = some (.cells arr E mk)) (esz : Nat) (cs : List SV) (hl : cs.length <= arr.size) (hc : ∀ (j : Nat) (v : SV), cs[j]? = some v -> arr[j]? = some (conc ρ v)) (hok : okL ρ H.size cs) (hf : cs.all SV.flat = true)
  (hu : unfrozen mk 0 arr.size) : Rel P h cx (upd ρ H.size ⟨w.heap.size, 0, arr.size, esz⟩) lam T (H.push (newRow esz cs)) a w' := by
 refine push_row hr hs (by omega) ⟨w.heap.size, 0, arr.size, esz⟩ (newRow esz cs) rfl (fun b hb _ => hold b hb) (.inr hr.heap.size) (fun r row' hg hk => ?_) (fun t cs ht => ?_) ?_
 ·have := (hr.heap.rows r row' hg hk).lt; simp; omega
 ·have := (hr.tmps.box t cs ht).lt; simp; omega
 ·exact ⟨⟨arr, E, mk, hnew, by simp, fun j v hv => by simpa using hc j v hv, fun _ => by simpa using hu⟩, hl, fun v hv => ⟨(okL_iff _ _ _).1 hok v hv, List.all_eq_true.1 hf v hv⟩, rfl⟩
theorem kill_row (hr : Rel P h cx ρ lam T H a w) {r : Nat} {row : Row} (hg : H.get r = some row) : Rel P h cx ρ lam T (H.kill r row) a w := by
 have hgk : ∀ r' row', (H.kill r row).get r' = some row' -> row'.kind ≠ 0 -> r' ≠ r /\ H.get r' = some row' := fun r' row' hg' hk => by
  by_cases e : r = r'
  ·subst e
   rw [Heap.kill, Heap.get_set_self hg] at hg'
   cases hg'
   simp at hk
  ·rw [Heap.kill, Heap.get_set_ne _ e] at hg'
   exact ⟨Ne.symm e, hg'⟩
 refine ⟨⟨hr.heap.os, hr.heap.tape, hr.heap.output, hr.heap.size, hr.heap.keep, fun r' row' hg' hk => ?_, fun r' row' hg' hk => ?_, fun r1 r2 row1 row2 hg1 hg2 hk1 hk2 hne => ?_, hr.heap.ext.set hg _ (by simp) (by simp), hr.heap.old⟩, ?_⟩
 ·exact hr.heap.rows r' row' (hgk r' row' hg' hk).2 hk
 ·exact hr.heap.own r' row' (hgk r' row' hg' (by omega)).2 hk
 ·exact hr.heap.sep r1 r2 row1 row2 (hgk r1 row1 hg1 (by omega)).2 (hgk r2 row2 hg2 hk2).2 hk1 hk2 hne
 ·exact hr.tmps.heap (fun _ _ => rfl) (Nat.le_refl _) (fun _ _ _ => rfl) (fun t cs ht r' row' hg' hk => hr.tmps.boxrow t cs ht r' row' (hgk r' row' hg' hk).2 hk)
theorem write_row (hr : Rel P h cx ρ lam T H a w) {r o : Nat} {vs : List SV} {H' : Heap} (hw : H.write r o vs = some H') (hok : okL ρ H.size vs) (hf : vs.all SV.flat = true) :
  (storeCells ⟨(ρ r).block, (ρ r).off + o, none⟩ (vs.map (conc ρ))).run P w = .ok () (w.setCells (ρ r).block ((ρ r).off + o) (vs.map (conc ρ))) /\ 
   Rel P h cx ρ lam T H' a (w.setCells (ρ r).block ((ρ r).off + o) (vs.map (conc ρ))) := by
 unfold Heap.write at hw
 cases hg : H.get r with
 | none => simp [hg] at hw
 | some row =>
  simp only [hg] at hw
  cases hk : Nat.beq row.kind 2 with
  | false => simp [hk] at hw
  | true =>
   simp only [hk, cond_true, Option.map_eq_some_iff] at hw
   obtain ⟨l, hl, rfl⟩ := hw
   have hkind := Nat.eq_of_beq_eq_true hk
   have hrow := hr.heap.rows r row hg (by omega)
   obtain ⟨arr, E, mk, h1, h2, h3, h4⟩ := hrow.blk
   obtain ⟨s1, s2, s3⟩ := splice_get hl
   have hfit := hrow.fits
   have hlen : (ρ r).off + o + (vs.map (conc ρ)).length <= arr.size := by simp; omega
   refine ⟨run_write h1 (by omega) (fun j hj1 hj2 => h4 hkind j (by omega) (by omega)) hf, ?_⟩
   obtain ⟨arr', k1, k2, k3, k4, k5⟩ := setCells_heap_eq (ρ r).block (vs.map (conc ρ)) ((ρ r).off + o) w h1 hlen
   have hm := setCells_meta (ρ r).block (vs.map (conc ρ)) ((ρ r).off + o) w
   have hsz := setCells_size (ρ r).block (vs.map (conc ρ)) ((ρ r).off + o) w
   have hne : ∀ b, b ≠ (ρ r).block -> (w.setCells (ρ r).block ((ρ r).off + o) (vs.map (conc ρ))).heap[b]? = w.heap[b]? := fun b hb => setCells_heap_ne _ _ _ _ hb
   have hgs : ∀ r' row', (H.set r { row with ver := row.ver + 1, cells := l }).get r' = some row' -> (r' = r /\ row' = { row with ver := row.ver + 1, cells := l }) \/ (r' ≠ r /\ H.get r' = some row') := fun r' row' hg' => by
    by_cases e : r = r'
    ·subst e
     rw [Heap.get_set_self hg] at hg'
     cases hg'
     exact .inl ⟨rfl, rfl⟩
    ·rw [Heap.get_set_ne _ e] at hg'
     exact .inr ⟨Ne.symm e, hg'⟩
   refine ⟨⟨hm.1.trans hr.heap.os, hm.2.1.trans hr.heap.tape, hm.2.2.trans hr.heap.output, by rw [hsz]; exact hr.heap.size, fun b hb hn => ?_, fun r' row' hg' hk' => ?_, fun r' row' hg' hk' => ?_, fun r1 r2 row1 row2 hg1 hg2 hk1 hk2 hne' => ?_,
    hr.heap.ext.set hg _ (by simp) (fun _ => rfl), hr.heap.old⟩, ?_⟩
   ·rw [hne b (fun e => by
     rcases hr.heap.own r row hg hkind with h | h
     ·exact hn (e ▸ h)
     ·omega)]
    exact hr.heap.keep b hb hn
   ·rcases hgs r' row' hg' with ⟨rfl, rfl⟩ | ⟨e1, e2⟩
    ·refine ⟨⟨arr', E, mk, k1, by omega, fun j v hv => ?_, fun _ => h4 hkind⟩, by simp only []; omega, fun v hv => ?_, hrow.esz⟩
     ·rcases s3 j v hv with ⟨hj, hv⟩ | ⟨hj1, hj2, hv⟩ | ⟨hj, hv⟩
      ·rw [k3 _ (by omega)]; exact h3 j v hv
      ·have := k4 (j - o) (conc ρ v) (by simp [hv])
       rwa [show (ρ r').off + o + (j - o) = (ρ r').off + j by omega] at this
      ·rw [k5 _ (by simp; omega)]; exact h3 j v hv
     ·rcases splice_mem hl v hv with hv | hv
      ·exact hrow.ok v hv
      ·exact ⟨(okL_iff _ _ _).1 hok v hv, List.all_eq_true.1 hf v hv⟩
    ·exact (hr.heap.rows r' row' e2 hk').world (hne _ (hr.heap.sep r r' row row' hg e2 hkind hk' (Ne.symm e1)).symm)
   ·rcases hgs r' row' hg' with ⟨rfl, rfl⟩ | ⟨e1, e2⟩
    ·exact hr.heap.own r' row hg hkind
    ·exact hr.heap.own r' row' e2 hk'
   ·have lift : ∀ r' row', (H.set r { row with ver := row.ver + 1, cells := l }).get r' = some row' -> ∃ row'', H.get r' = some row'' /\ row''.kind = row'.kind := fun r' row' hg' => by
     rcases hgs r' row' hg' with ⟨rfl, rfl⟩ | ⟨e1, e2⟩
     ·exact ⟨row, hg, rfl⟩
     ·exact ⟨row', e2, rfl⟩
    obtain ⟨x1, y1, z1⟩ := lift r1 row1 hg1
    obtain ⟨x2, y2, z2⟩ := lift r2 row2 hg2
    exact hr.heap.sep r1 r2 x1 x2 y1 y2 (by omega) (by omega) hne'
   ·refine hr.tmps.heap (fun _ _ => rfl) (Nat.le_refl _) (fun t cs ht => hne _ (fun e => hr.tmps.boxrow t cs ht r row hg (by omega) e.symm)) (fun t cs ht r' row' hg' hk' => ?_)
    rcases hgs r' row' hg' with ⟨rfl, rfl⟩ | ⟨e1, e2⟩
    ·exact hr.tmps.boxrow t cs ht r' row hg (by omega)
    ·exact hr.tmps.boxrow t cs ht r' row' e2 hk'
theorem Does.heap {o : Oper} {ρ' : Place} {w' : World} {H' : Heap} {y : SV} {v : Value} (hrun : (execOp a.eval o).run P w = .ok (.value v) w') (hr : Rel P h cx ρ' lam T H' a w') (hv : VR ρ' H'.size y v) :
  Does P h cx a w o (setD T o.dst y) H' := ⟨v, w', ρ', lam, .inl hrun, hr.heap, hr.tmps.put_vr o.dst hv⟩
theorem E_store {o : Oper} {t : TypeId} {x v : Operand} {n : Nat} {sx : SV} {y : Opd} {z : SV} {H' : Heap} (hop : o.op = .store t x v) (hd : o.dst = none) (hs : sizeT P t = some n) (ex : VR ρ H.size sx (a.eval x)) (hy : opd h v = some y)
  (hr : Rel P h cx ρ lam T H a w) (hz : opE (.store n) [sx, y.ev T] H = some (z, H')) : Does P h cx a w o T H' := by
 have ey := ev_opd hr.tmps hy
 cases sx <;> simp only [opE] at hz <;> (try cases hz)
 rename_i p
 cases hb : ((y.ev T).item && Nat.beq (y.ev T).cells.length n) with
 | false => simp [hb] at hz
 | true =>
  simp only [hb, cond_true, Option.map_eq_some_iff] at hz
  obtain ⟨H1, hw, he⟩ := hz
  cases he
  simp only [Bool.and_eq_true] at hb
  obtain ⟨o1, e1⟩ := ex.ne (by simp)
  obtain ⟨k1, k2, k3, k4⟩ := ey.item hb.1
  obtain ⟨w1, w2⟩ := write_row hr hw k1 k2
  refine ⟨Go.undef, _, ρ, lam, .inr ⟨?_, rfl⟩, by rw [hd]; exact w2⟩
  have hst := run_storeAt (P := P) (w := w) hs k4 (Nat.eq_of_beq_eq_true hb.2) w1
  simp [execOp, hop, e1, conc, addrOf, hst]
theorem E_alloc {o : Oper} {t : TypeId} {z : List SV} (hop : o.op = .alloc t) (hz : zeroOf P t = some z) (hr : Rel P h cx ρ lam T H a w) :
  Does P h cx a w o (setD T o.dst (.ptr (H.size, 0))) (H.push (newRow 1 z)) := by
 simp only [zeroOf, Option.bind_eq_some_iff] at hz
 obtain ⟨z', hz, n, hn, he⟩ := hz
 split at he <;> simp at he
 subst he
 obtain ⟨v, hv, hc, okz, fz, _⟩ := zeroT_ok (P := P) (w := w) (ρ := ρ) H.size hz
 have hrun : (execOp a.eval o).run P w = .ok (.value (.pointer (some ⟨w.heap.size, 0, none⟩))) (w.alloc (.cells v.cells t)) := by
  simp [execOp, hop, Instr.alloc, hv, newVar, Go.newRow]
 have := push_new hr (w' := w.alloc (.cells v.cells t)) ⟨rfl, rfl, rfl⟩ (by simp) (fun b hb => heap_alloc_old w _ b hb) (heap_alloc_new w _) 1 z' (by rw [hc]; simp) (fun j x hx => by rw [hc]; simp [hx]) okz fz (unfrozen_zero _ _)
 exact Does.heap hrun this (.inr ⟨by simp [okSV, Heap.size_push], by simp [conc, addrOf, upd_new]⟩)
theorem E_box {o : Oper} {t : TypeId} {x : Operand} {sx z : SV} {H' : Heap} (hop : o.op = .box t x) (ex : VR ρ H.size sx (a.eval x)) (hr : Rel P h cx ρ lam T H a w) (hz : opE .box [sx] H = some (z, H')) :
  Does P h cx a w o (setD T o.dst z) H' := by
 simp only [opE] at hz
 cases hi : sx.item with
 | false => simp [hi] at hz
 | true =>
  simp [hi] at hz
  obtain ⟨rfl, rfl⟩ := hz
  obtain ⟨k1, k2, k3, k4⟩ := ex.item hi
  have hc : (a.eval x).cells = (sx.cells.map (conc ρ)).toArray := by rw [<- k4]
  have hrun : (execOp a.eval o).run P w = .ok (.value (.pointer (some ⟨w.heap.size, 0, none⟩))) (w.alloc (.cells (a.eval x).cells t)) := by
   simp [execOp, hop, Instr.box, newVar, Go.newRow]
  have := push_new hr (w' := w.alloc (.cells (a.eval x).cells t)) ⟨rfl, rfl, rfl⟩ (by simp) (fun b hb => heap_alloc_old w _ b hb) (heap_alloc_new w _) 1 sx.cells (by rw [hc]; simp) (fun j x hx => by rw [hc]; simp [hx]) k1 k2 (unfrozen_zero _ _)
  exact Does.heap hrun this (.inr ⟨by simp [okSV, Heap.size_push], by simp [conc, addrOf, upd_new]⟩)
theorem repeatL_get {z : List SV} (hz : 0 < z.length) : ∀ (n j : Nat), j < n * z.length -> (repeatL n z)[j]? = z[j % z.length]?
 | 0, j, hj => by simp at hj
 | n + 1, j, hj => by
  have : repeatL (n + 1) z = z ++ repeatL n z := by simp [repeatL, List.replicate_succ]
  rw [this, List.getElem?_append]
  split
  ·rename_i h; rw [Nat.mod_eq_of_lt h]
  ·rename_i h
   rw [Nat.add_mul, Nat.one_mul] at hj
   rw [repeatL_get hz n (j - z.length) (by omega)]
   rw [Nat.mod_eq_sub_mod (by omega : j >= z.length)]
theorem repeatL_length (n : Nat) (z : List SV) : (repeatL n z).length = n * z.length := by
 simp [repeatL]
theorem repeatL_mem {n : Nat} {z : List SV} : ∀ v ∈ repeatL n z, v ∈ z := by
 intro v hv
 simp only [repeatL, List.mem_flatten, List.mem_replicate] at hv
 obtain ⟨l, ⟨_, rfl⟩, h⟩ := hv
 exact h
theorem made_eq {z : List SV} {zero : Array Value} (hz : zero = (z.map (conc ρ)).toArray) (hl : 0 < z.length) (n : Nat) :
  (Array.range (n * z.length)).map (zero[· % zero.size]!) = ((repeatL n z).map (conc ρ)).toArray := by
 subst hz
 apply Array.ext'
 apply List.ext_getElem?
 intro j
 simp only [Array.toList_map, Array.toList_range, List.getElem?_map]
 by_cases hj : j < n * z.length
 ·rw [repeatL_get hl n j hj]
  have hm : j % z.length < z.length := Nat.mod_lt _ hl
  simp [hj, List.getElem?_eq_getElem hm]
 ·rw [List.getElem?_eq_none (by simpa using hj), List.getElem?_eq_none (by rw [repeatL_length]; omega)]
  rfl
theorem E_make {o : Oper} {t e : TypeId} {l c : Operand} {l' c' : Opd} {by_ : Nat} {z : List SV} {y : SV} {H' : Heap} (hop : o.op = .makeSlice t l c) (ht : P.underlying t = some (.slice e)) (hz0 : zeroOf P e = some z) (hb : bytesT P e = some by_)
  (hl : opd h l = some l') (hc : opd h c = some c') (hr : Rel P h cx ρ lam T H a w) (hz : opE (.make z.length by_ z) [l'.ev T, c'.ev T] H = some (y, H')) : Does P h cx a w o (setD T o.dst y) H' := by
 have el := ev_opd hr.tmps hl
 have ec := ev_opd hr.tmps hc
 generalize l'.ev T = sl at *
 generalize c'.ev T = sc at *
 cases sl <;> cases sc <;> simp only [opE] at hz <;> (try cases hz)
 rename_i k1 n1 k2 n2
 split at hz
 rotate_left
 ·cases hz
 rename_i hcnd
 obtain ⟨h0, h1, h2, h3, h4⟩ := hcnd
 simp only [Option.some.injEq, Prod.mk.injEq] at hz
 obtain ⟨rfl, rfl⟩ := hz
 have e1 := el.int_of
 have e2 := ec.int_of
 simp only [zeroOf, Option.bind_eq_some_iff] at hz0
 obtain ⟨z', hz0, n, hn, he⟩ := hz0
 split at he <;> simp at he
 subst he
 rename_i hzl
 obtain ⟨v, hv, hcv, okz, fz, i, hi, hiz⟩ := zeroT_ok (P := P) (w := w) (ρ := ρ) H.size hz0
 have hsz : i.size = z'.length := by
  simp only [sizeT, hi, Option.map_some, Option.some.injEq] at hn; omega
 have hby : i.bytes = by_ := by simpa [bytesT, hi] using hb
 have hroom : (4 * n2.toNat + 4096) * (by_ + 1) <= 70368744177664 := by rw [roomy, Nat.ble_eq] at h3; exact h3
 have hbytes : (i.bytes : Int) * n2 <= 281474976710656 := by
  have e : (n2.toNat : Int) = n2 := Int.toNat_of_nonneg (by omega)
  have : by_ * n2.toNat <= 70368744177664 := by
   have h5 : n2.toNat * by_ <= (4 * n2.toNat + 4096) * (by_ + 1) := Nat.le_trans (Nat.mul_le_mul_left _ (Nat.le_succ _)) (Nat.mul_le_mul_right _ (by omega))
   rw [Nat.mul_comm]; exact Nat.le_trans h5 hroom
  clear hroom
  rw [hby, <- e]
  have h6 : ((by_ * n2.toNat : Nat) : Int) <= ((70368744177664 : Nat) : Int) := Int.ofNat_le.2 this
  rw [Int.natCast_mul] at h6
  omega
 have hrun := run_make (P := P) w t e i v ht hi hiz k1 k2 n1 n2 h0 h1 hbytes (by omega)
 have harr : madeCells v.cells (n2.toNat * i.size) = ((repeatL n2.toNat z').map (conc ρ)).toArray := by
  rw [madeCells, hsz]; exact made_eq hcv h4 n2.toNat
 have hlen : ((repeatL n2.toNat z').map (conc ρ)).toArray.size = n2.toNat * z'.length := by simp [repeatL_length]
 have := push_new hr (w' := w.alloc (.cells (madeCells v.cells (n2.toNat * i.size)) e)) ⟨rfl, rfl, rfl⟩ (by simp) (fun b hb => heap_alloc_old w _ b hb) (heap_alloc_new w _) z'.length (repeatL n2.toNat z') (by rw [harr]; simp) (fun j x hx => by rw [harr]; simp [hx])
  ((okL_iff _ _ _).2 fun v hv => (okL_iff _ _ _).1 okz v (repeatL_mem v hv)) (List.all_eq_true.2 fun v hv => List.all_eq_true.1 fz v (repeatL_mem v hv)) (unfrozen_zero _ _)
 have hcap : capC (upd ρ H.size ⟨w.heap.size, 0, (madeCells v.cells (n2.toNat * i.size)).size, z'.length⟩) ⟨some (H.size, 0), n1.toNat, none, 0⟩ = n2.toNat := by
  simp only [capC, upd_new, Nat.sub_zero]
  rw [harr, hlen]
  exact Nat.mul_div_cancel _ h4
 refine Does.heap (v := .slice (some ⟨w.heap.size, 0, none⟩) n1.toNat n2.toNat) (by simp [execOp, hop, e1, e2, hrun]) this (.inr ⟨?_, ?_⟩)
 ·simp only [okSV]
  exact ⟨fun p hp => by simp at hp; subst hp; simp [Heap.size_push], by rw [hcap]; omega⟩
 ·simp only [conc, hcap]
  simp [baseC, addrOf, upd_new]
end
end Go.Sh

/- The reference's steps (Bareiss's rule, by its own numbers): a matrix in work, exact division. -/
import Derived.Test.YtfjgbobjpjkamaaGreatRef
import Derived.Test.YtfjgbobjpjkamaaGreatChk
set_option linter.unusedVariables false
set_option linter.unusedSimpArgs false
namespace Go.Sh.Of
open Go
theorem IsRZ.keepI {H H' : Heap} {v : SV} {z : Int} (h : IsRZ H v z) {X : Nat -> Prop} (hX : ∀ r row, X r -> H.get r = some row -> ∀ c ∈ row.cells, ∀ kd n, c ≠ .int kd n) (hro : ∀ r, ¬ X r -> r < H.size -> H'.get r = H.get r) : IsRZ H' v z := h.keep (fun r row a b c d n => hX r row a b c d _ n) hro
theorem IsRZ.nil (H : Heap) : IsRZ H (.agg [.bool false, .slice nilSl]) 0 := ⟨nilSl, rfl, by show Arr H _ (rl (rdigs 0)); rw [rdigs_zero]; exact Arr.nil H⟩
def RZRow (lo : Nat) (H : Heap) (w : SV) (f : Nat -> Int) (cols : Nat) : Prop := ∃ els, OwnS 2 lo H w els /\ els.length = cols /\ (∀ e ∈ els, zCell e) /\ ∀ (t : Nat) e, els[t]? = some e -> IsRZ H (.agg e) (f t)
structure RWork (lo : Nat) (H : Heap) (v : SV) (ws : List SV) (m : Mx) (rows cols : Nat) : Prop where
 out : Own lo H v ws
 len : ws.length = rows
 row : ∀ (i : Nat) w, ws[i]? = some w -> RZRow lo H w (m i) cols
 dis : ∀ (i j : Nat) w w' r, ws[i]? = some w -> ws[j]? = some w' -> inRow w r -> inRow w' r -> i = j
theorem RZRow.keep {lo : Nat} {H H' : Heap} {w : SV} {f : Nat -> Int} {cols : Nat} (h : RZRow lo H w f cols) {X : Nat -> Prop} (hX : ∀ r row, X r -> H.get r = some row -> ∀ c ∈ row.cells, ∀ kd n, c ≠ .int kd n) (hro : ∀ r, ¬ X r -> r < H.size -> H'.get r = H.get r) (hw : ∀ r, inRow w r -> ¬ X r) : RZRow lo H' w f cols := by
 obtain ⟨els, h1, h2, h3, h4⟩ := h
 exact ⟨els, h1.of_rows fun r hr => hro r (hw r hr) (OwnS.lt2 h1 hr), h2, h3, fun t e he => (h4 t e he).keepI hX hro⟩
where
 OwnS.lt2 {n lo : Nat} {H : Heap} {v : SV} {els : List (List SV)} (h : OwnS n lo H v els) {r : Nat} (hr : inRow v r) : r < H.size := by
  obtain ⟨_, base, rfl, h⟩ := h
  obtain ⟨s, o, e, h4⟩ := hr
  cases e
  rcases h with ⟨rfl, _⟩ | ⟨r', ver, rfl, h2, h3⟩
  ·cases h4
  ·cases h4; exact Heap.get_lt h3
theorem RZRow.fr {lo : Nat} {H H' : Heap} {w : SV} {f : Nat -> Int} {cols : Nat} (h : RZRow lo H w f cols) (hf : Frame H H') : RZRow lo H' w f cols :=
 h.keep (X := fun _ => False) (fun r row hx => hx.elim) (fun r _ hr => hf.rows r hr) fun r _ => id
theorem RZRow.congr {lo : Nat} {H : Heap} {w : SV} {f g : Nat -> Int} {cols : Nat} (h : RZRow lo H w f cols) (he : ∀ t, t < cols -> f t = g t) : RZRow lo H w g cols := by
 obtain ⟨els, h1, h2, h3, h4⟩ := h
 exact ⟨els, h1, h2, h3, fun t e hh => by
  rw [<- he t (by have := (List.getElem?_eq_some_iff.1 hh).1; omega)]
  exact h4 t e hh⟩
theorem RWork.fr {lo : Nat} {H H' : Heap} {v : SV} {ws : List SV} {m : Mx} {rows cols : Nat} (h : RWork lo H v ws m rows cols) (hf : Frame H H') : RWork lo H' v ws m rows cols :=
 ⟨h.out.fr hf, h.len, fun i w hw => (h.row i w hw).fr hf, h.dis⟩
theorem RWork.congr {lo : Nat} {H : Heap} {v : SV} {ws : List SV} {m m' : Mx} {rows cols : Nat} (h : RWork lo H v ws m rows cols) (he : ∀ i k, i < rows -> k < cols -> m i k = m' i k) : RWork lo H v ws m' rows cols :=
 ⟨h.out, h.len, fun i w hw => (h.row i w hw).congr fun t ht => he i t (by have := (List.getElem?_eq_some_iff.1 hw).1; have := h.len; omega) ht, h.dis⟩
theorem RZRow.load {lo : Nat} {H : Heap} {w : SV} {f : Nat -> Int} {cols : Nat} (h : RZRow lo H w f cols) {t : Nat} (ht : t < cols) : ∃ x y, (∀ k, slow.idx 2 w (i64 t) (fun p => slow.load 2 true p H k) = k (.agg [x, y])) /\ IsRZ H (.agg [x, y]) (f t) := by
 obtain ⟨els, h1, h2, h3, h4⟩ := h
 obtain ⟨e, he⟩ : ∃ e, els[t]? = some e := ⟨_, List.getElem?_eq_getElem (by omega)⟩
 have h5 := h4 t e he
 obtain ⟨sl, e1, h6⟩ := h5
 cases e1
 exact ⟨_, _, fun k => h1.arr.load (by decide) he .i64 k, sl, rfl, h6⟩
theorem RWork.load {lo : Nat} {H : Heap} {v : SV} {ws : List SV} {m : Mx} {rows cols : Nat} (h : RWork lo H v ws m rows cols) {i t : Nat} (hi : i < rows) (ht : t < cols) : ∃ w x y, ws[i]? = some w /\ (∀ k, slow.idx 1 v (i64 i) (fun p => slow.load 1 false p H k) = k w) /\ (∀ k, slow.idx 2 w (i64 t) (fun p => slow.load 2 true p H k) = k (.agg [x, y])) /\ IsRZ H (.agg [x, y]) (m i t) := by
 obtain ⟨w, hw⟩ : ∃ w, ws[i]? = some w := ⟨_, List.getElem?_eq_getElem (by rw [h.len]; exact hi)⟩
 obtain ⟨x, y, h1, h2⟩ := (h.row i w hw).load ht
 exact ⟨w, x, y, hw, fun k => h.out.arr.load hw .i64 k, h1, h2⟩
theorem RWork.store {lo : Nat} {H : Heap} {v : SV} {ws : List SV} {m : Mx} {rows cols : Nat} (h : RWork lo H v ws m rows cols) {i t : Nat} {w : SV} (hw : ws[i]? = some w) (ht : t < cols) {e : List SV} {z : Int} (he : IsRZ H (.agg e) z) :
  ∃ H', (∀ k, slow.idx 2 w (i64 t) (fun p => slow.store 2 p (.agg e) H k) = k H') /\ RWork lo H' v ws (updM m i t z) rows cols /\ Fr lo H H' /\ H'.size = H.size /\ ∀ u y, IsRZ H u y -> IsRZ H' u y := by
 obtain ⟨els, h1, h2, h3, h4⟩ := h.row i w hw
 obtain ⟨b, s, hes⟩ := he.cell
 obtain ⟨H', st, o', f', sz, hro⟩ := h1.store (i := t) (by omega) (e := e) (by rw [hes]; rfl) .i64
 have hX : ∀ r row', inRow w r -> H.get r = some row' -> ∀ c ∈ row'.cells, ∀ kd n, c ≠ .int kd n := fun r row' hr hg => by
  rw [OwnS.cells h1 hr hg]
  exact zCells_flat h3
 have hint : ∀ u y, IsRZ H u y -> IsRZ H' u y := fun u y hu => hu.keepI hX fun r hr _ => hro r hr
 refine ⟨H', st, ⟨Own.of_rows h.out fun r hr => hro r (ownS_apart h.out h1 hr), h.len, fun q u hu => ?_, h.dis⟩, f', sz, hint⟩
 by_cases hq : q = i
 ·subst hq
  rw [hw] at hu
  cases hu
  refine ⟨els.set t e, o', by simp [h2], fun x hx => ?_, fun t' x hx => ?_⟩
  ·rcases List.mem_or_eq_of_mem_set hx with hx | rfl
   ·exact h3 x hx
   ·exact he.cell
  ·unfold updM
   by_cases ht' : t' = t
   ·subst ht'
    rw [if_pos ⟨rfl, rfl⟩]
    rw [List.getElem?_set_self (by omega)] at hx
    cases hx
    exact hint _ _ he
   ·rw [if_neg fun hh => ht' hh.2]
    rw [List.getElem?_set_ne (Ne.symm ht')] at hx
    exact hint _ _ (h4 t' x hx)
 ·refine ((h.row q u hu).keep hX (fun r hr _ => hro r hr) fun r hr hr' => hq (h.dis q i u w r hu hw hr hr')).congr fun t' _ => ?_
  unfold updM
  rw [if_neg fun hh => hq hh.1]
theorem RWork.swap {lo : Nat} {H : Heap} {v : SV} {ws : List SV} {m : Mx} {rows cols : Nat} (h : RWork lo H v ws m rows cols) {p r : Nat} {a b : SV} (ha : ws[r]? = some a) (hb : ws[p]? = some b) :
  ∃ H' H'', (∀ k, slow.idx 1 v (i64 p) (fun q => slow.store 1 q a H k) = k H') /\ (∀ k, slow.idx 1 v (i64 r) (fun q => slow.store 1 q b H' k) = k H'') /\ RWork lo H'' v ((ws.set p a).set r b) (swM m p r) rows cols /\ Fr lo H H'' /\ H''.size = H.size /\ ∀ u y, IsRZ H u y -> IsRZ H'' u y := by
 have l1 := (List.getElem?_eq_some_iff.1 ha).1
 have l2 := (List.getElem?_eq_some_iff.1 hb).1
 obtain ⟨ea, oa, _⟩ := h.row r a ha
 obtain ⟨eb, ob, _⟩ := h.row p b hb
 have sl : ∀ w ∈ ws, isSlice w := fun w hw => by
  obtain ⟨i, hi⟩ := List.getElem?_of_mem hw
  obtain ⟨ei, oi, _⟩ := h.row i w hi
  obtain ⟨_, base, rfl, _⟩ := oi
  trivial
 have hfa : a.flat = true := oa.arr.flat
 have hfb : b.flat = true := ob.arr.flat
 obtain ⟨H1, s1, o1, f1, z1, r1⟩ := h.out.store (i := p) l2 (x := a) hfa .i64
 obtain ⟨H2, s2, o2, f2, z2, r2⟩ := o1.store (i := r) (by simpa using l1) (x := b) hfb .i64
 have hX : ∀ q row', inRow v q -> H.get q = some row' -> ∀ c ∈ row'.cells, ∀ kd n, c ≠ .int kd n := fun q row' hr hg c hc => by
  rw [Own.cells h.out hr hg] at hc
  exact isSlice_not_int (sl c hc)
 have hro : ∀ q, ¬ inRow v q -> q < H.size -> H2.get q = H.get q := fun q hq _ => (r2 q hq).trans (r1 q hq)
 refine ⟨H1, H2, s1, s2, ⟨o2, by simp [h.len], fun i w hw => ?_, fun i j w w' q hw hw' hr hr' => ?_⟩, Fr.trans f1 f2, z2.trans z1, fun u y hu => hu.keepI hX hro⟩
 ·have keep : ∀ i w, ws[i]? = some w -> RZRow lo H2 w (m i) cols := fun i w hw => by
   obtain ⟨ei, oi, _⟩ := h.row i w hw
   exact (h.row i w hw).keep hX hro fun q hq hv => ownS_apart h.out oi hv hq
  rw [swap_ws ha hb] at hw
  unfold swM
  by_cases e1 : i = r
  ·rw [if_pos e1] at hw ⊢
   cases hw
   exact keep p b hb
  ·rw [if_neg e1] at hw ⊢
   by_cases e2 : i = p
   ·rw [if_pos e2] at hw ⊢
    cases hw
    exact keep r a ha
   ·rw [if_neg e2] at hw ⊢
    exact keep i w hw
 ·rw [swap_ws ha hb] at hw hw'
  have idx : ∀ i w, (if i = r then some b else if i = p then some a else ws[i]?) = some w -> ws[if i = r then p else if i = p then r else i]? = some w := fun i w hh => by
   by_cases e1 : i = r
   ·rw [if_pos e1] at hh ⊢
    rw [hb]; exact hh
   ·rw [if_neg e1] at hh ⊢
    by_cases e2 : i = p
    ·rw [if_pos e2] at hh ⊢
     rw [ha]; exact hh
    ·rw [if_neg e2] at hh ⊢
     exact hh
  have := h.dis _ _ w w' q (idx i w hw) (idx j w' hw') hr hr'
  split at this <;> split at this <;> (try split at this) <;> (try split at this) <;> omega
theorem RWork.slices {lo : Nat} {H : Heap} {v : SV} {ws : List SV} {m : Mx} {rows cols : Nat} (h : RWork lo H v ws m rows cols) : ∀ w ∈ ws, isSlice w := fun w hw => by
 obtain ⟨i, hi⟩ := List.getElem?_of_mem hw
 obtain ⟨ei, oi, _⟩ := h.row i w hi
 obtain ⟨_, base, rfl, _⟩ := oi
 trivial
theorem RZRow.len {lo : Nat} {H : Heap} {w : SV} {f : Nat -> Int} {cols : Nat} (h : RZRow lo H w f cols) (k : K1) : slow.len w k = k (i64 cols) := by
 obtain ⟨els, h1, h2, _⟩ := h
 rw [h1.arr.len, h2]
theorem RWork.size {lo : Nat} {H : Heap} {v : SV} {ws : List SV} {m : Mx} {rows cols : Nat} (h : RWork lo H v ws m rows cols) (k : K1) : slow.len v k = k (i64 rows) := by
 rw [h.out.arr.len, h.len]
theorem fld1 (r o : Nat) (k : K1) : slow.fld 1 (.ptr (r, o)) k = k (.ptr (r, o + 1)) := rfl
theorem ArrS.load1 {H : Heap} {v : SV} {els : List (List SV)} (h : ArrS 2 H v els) {i : Nat} {x y : SV} (he : els[i]? = some [x, y]) (k : K1) :
  slow.idx 2 v (i64 i) (fun p => slow.fld 1 p fun q => slow.load 1 false q H k) = k y := by
 obtain ⟨s, rfl, h2, h0, h3⟩ := h
 have hi : i < els.length := (List.getElem?_eq_some_iff.1 he).1
 rcases h3 with rfl | ⟨r, o, row, b1, b2, b3, b4⟩
 ·simp at hi
 ·have hc : 0 <= (i : Int) /\ (i : Int) < s.len := ⟨by omega, by rw [h2]; omega⟩
  show (opP (.idx 2) [.slice s, .int .i64 i]).bind _ = _
  simp only [opP, if_pos hc, b1, Option.bind_some, fld1]
  show (opR (.load 1 false) [.ptr (r, o + (i : Int).toNat * 2 + 1)] H).bind k = _
  have hx : row.cells[o + i * 2 + 1]? = some y := b4 i _ he 1 y rfl
  simp only [opR, Heap.read, b2, beq_ne b3, cond_false, Int.toNat_natCast, cut_one hx, shaped, Option.bind_some]
theorem RZRow.load1 {lo : Nat} {H : Heap} {w : SV} {f : Nat -> Int} {cols : Nat} (h : RZRow lo H w f cols) {t : Nat} (ht : t < cols) : ∃ y, (∀ k, slow.idx 2 w (i64 t) (fun p => slow.fld 1 p fun q => slow.load 1 false q H k) = k y) /\ IsR H y (f t).natAbs := by
 obtain ⟨els, h1, h2, h3, h4⟩ := h
 obtain ⟨e, he⟩ : ∃ e, els[t]? = some e := ⟨_, List.getElem?_eq_getElem (by omega)⟩
 have h5 := h4 t e he
 obtain ⟨sl, e1, h6⟩ := h5
 cases e1
 exact ⟨_, fun k => ArrS.load1 h1.arr he k, h6⟩
theorem rexact_run (K d : Nat) (H : Heap) (v w : SV) : runQ wk tab slow K (d + 5) 113 [v, w] H = f113 slow K (runQ wk tab slow K (d + 4)) v w H := Eq.trans rfl rfl
theorem rexact_ok (K : Nat) (hK : 3000000 < K) (d : Nat) (H : Heap) {v w : SV} {a b : Int} (hv : IsRZ H v a) (hw : IsRZ H w b) (hb0 : b ≠ 0) (hd : a % b = 0) (hla : (rdigs a.natAbs).length < 900000) (hlb : (rdigs b.natAbs).length < 900000) :
  ∃ q H', runQ wk tab slow K (d + 5) 113 [v, w] H = some (q, H') /\ Frame H H' /\ IsRZ H' q (a / b) := by
 obtain ⟨c, rfl⟩ := Int.dvd_of_emod_eq_zero hd
 rw [Int.mul_ediv_cancel_left _ hb0]
 obtain ⟨s, rfl, hs⟩ := hv
 obtain ⟨t, rfl, ht⟩ := hw
 have hbp : 0 < b.natAbs := Int.natAbs_pos.2 hb0
 obtain ⟨q, r, H1, h1, f1, n1, _⟩ := rdiv_ok K d H hs ht hbp hla hlb hK
 rw [Int.natAbs_mul, Nat.mul_div_cancel_left _ hbp] at n1
 obtain ⟨q', rfl⟩ := n1.slice
 have hl : ∀ k, slow.len (.slice q') k = k (i64 (rdigs c.natAbs).length) := rlen n1
 refine ⟨.agg [.bool (decide (c < 0)), .slice q'], H1, ?_, f1, q', rfl, n1⟩
 rw [rexact_run]
 have key : (b < 0 /\ (c <= 0 \/ 0 < c)) \/ 0 < b := by omega
 by_cases hsg : decide (b * c < 0) = decide (b < 0)
 ·have hbeq : (!(decide (b * c < 0) == decide (b < 0))) = false := by rw [hsg, beq_self_eq_true]; rfl
  have e1 : decide (c < 0) = false := decide_eq_false fun hc => by
   by_cases h : b < 0
   ·have := Int.mul_pos_of_neg_of_neg h hc
    rw [decide_eq_true h] at hsg
    have := of_decide_eq_true hsg
    omega
   ·have := Int.mul_neg_of_pos_of_neg (show 0 < b by omega) hc
    rw [decide_eq_false h] at hsg
    have := of_decide_eq_false hsg
    omega
  simp only [f113, z_bbox, z_lfld, z_lld0, z_lld1, h1, z_call, z_ext0, z_ext1, z_bneq, hbeq, z_guard, cond_false, z_build2s, z_bst2, f113_j1, z_resc2, e1]
 ·have hbeq : (!(decide (b * c < 0) == decide (b < 0))) = true := by rw [beq_eq_false_iff_ne.2 hsg]; rfl
  have hle : c <= 0 := Decidable.byContradiction fun hc => by
   by_cases h : b < 0
   ·have := Int.mul_neg_of_neg_of_pos h (show 0 < c by omega)
    exact hsg (by rw [decide_eq_true h, decide_eq_true this])
   ·have := Int.mul_pos (show 0 < b by omega) (show 0 < c by omega)
    exact hsg (by rw [decide_eq_false h, decide_eq_false (by omega)])
  have e1 : decide (c < 0) = decide (c.natAbs ≠ 0) := decide_eq_decide.2 (by omega)
  simp only [f113, z_bbox, z_lfld, z_lld0, z_lld1, h1, z_call, z_ext0, z_ext1, z_bneq, hbeq, z_guard, cond_true, hl, z_gtr, rlen_pos, z_build2s, z_bst2, f113_j1, z_resc2, e1]
end Go.Sh.Of

/- A matrix in work: its rows are its own, and are written. A matrix in work: made, and eliminated. Contract of mat.steps: Bareiss's rule. Contracts of mat.wide, mat.square, mat.Det. Contracts of gram: each, small, square, positive, Check. Contracts of gram: Check, Det. GramCorners: beyond, rows that are built, corners. -/
import Derived.Test.YtcfheodfkmelmaaMat
import Derived.Test.YtcfheodfkmelmaaDetG
import Derived.Test.YtcfheodfkmelmaaNum
import Derived.Test.YtcfheodfkmelmaaWk
set_option linter.unusedVariables false
set_option linter.unusedSimpArgs false
namespace Go.Sh.Of
open Go
def ZRow (lo : Nat) (H : Heap) (w : SV) (f : Nat -> Int) (cols : Nat) : Prop := ∃ els, OwnS 2 lo H w els /\ els.length = cols /\ (∀ e ∈ els, zCell e) /\ ∀ (t : Nat) e, els[t]? = some e -> IsInt H (.agg e) (f t)
structure Work (lo : Nat) (H : Heap) (v : SV) (ws : List SV) (m : Mx) (rows cols : Nat) : Prop where
 out : Own lo H v ws
 len : ws.length = rows
 row : ∀ (i : Nat) w, ws[i]? = some w -> ZRow lo H w (m i) cols
 dis : ∀ (i j : Nat) w w' r, ws[i]? = some w -> ws[j]? = some w' -> inRow w r -> inRow w' r -> i = j
theorem ZRow.keep {lo : Nat} {H H' : Heap} {w : SV} {f : Nat -> Int} {cols : Nat} (h : ZRow lo H w f cols) {X : Nat -> Prop} (hX : ∀ r row, X r -> H.get r = some row -> ∀ c ∈ row.cells, ∀ kd n, c ≠ .int kd n) (hro : ∀ r, ¬ X r -> r < H.size -> H'.get r = H.get r) (hw : ∀ r, inRow w r -> ¬ X r) : ZRow lo H' w f cols := by
 obtain ⟨els, h1, h2, h3, h4⟩ := h
 exact ⟨els, h1.of_rows fun r hr => hro r (hw r hr) (OwnS.lt2 h1 hr), h2, h3, fun t e he => (h4 t e he).keep hX hro⟩
where
 OwnS.lt2 {n lo : Nat} {H : Heap} {v : SV} {els : List (List SV)} (h : OwnS n lo H v els) {r : Nat} (hr : inRow v r) : r < H.size := by
  obtain ⟨_, base, rfl, h⟩ := h
  obtain ⟨s, o, e, h4⟩ := hr
  cases e
  rcases h with ⟨rfl, _⟩ | ⟨r', ver, rfl, h2, h3⟩
  ·cases h4
  ·cases h4; exact Heap.get_lt h3
theorem ZRow.fr {lo : Nat} {H H' : Heap} {w : SV} {f : Nat -> Int} {cols : Nat} (h : ZRow lo H w f cols) (hf : Frame H H') : ZRow lo H' w f cols :=
 h.keep (X := fun _ => False) (fun r row hx => hx.elim) (fun r _ hr => hf.rows r hr) fun r _ => id
theorem ZRow.congr {lo : Nat} {H : Heap} {w : SV} {f g : Nat -> Int} {cols : Nat} (h : ZRow lo H w f cols) (he : ∀ t, t < cols -> f t = g t) : ZRow lo H w g cols := by
 obtain ⟨els, h1, h2, h3, h4⟩ := h
 exact ⟨els, h1, h2, h3, fun t e hh => by
  rw [<- he t (by have := (List.getElem?_eq_some_iff.1 hh).1; omega)]
  exact h4 t e hh⟩
theorem Work.fr {lo : Nat} {H H' : Heap} {v : SV} {ws : List SV} {m : Mx} {rows cols : Nat} (h : Work lo H v ws m rows cols) (hf : Frame H H') : Work lo H' v ws m rows cols :=
 ⟨h.out.fr hf, h.len, fun i w hw => (h.row i w hw).fr hf, h.dis⟩
theorem Work.congr {lo : Nat} {H : Heap} {v : SV} {ws : List SV} {m m' : Mx} {rows cols : Nat} (h : Work lo H v ws m rows cols) (he : ∀ i k, i < rows -> k < cols -> m i k = m' i k) : Work lo H v ws m' rows cols :=
 ⟨h.out, h.len, fun i w hw => (h.row i w hw).congr fun t ht => he i t (by have := (List.getElem?_eq_some_iff.1 hw).1; have := h.len; omega) ht, h.dis⟩
theorem ZRow.load {lo : Nat} {H : Heap} {w : SV} {f : Nat -> Int} {cols : Nat} (h : ZRow lo H w f cols) {t : Nat} (ht : t < cols) : ∃ x y, (∀ k, slow.idx 2 w (i64 t) (fun p => slow.load 2 true p H k) = k (.agg [x, y])) /\ IsInt H (.agg [x, y]) (f t) := by
 obtain ⟨els, h1, h2, h3, h4⟩ := h
 obtain ⟨e, he⟩ : ∃ e, els[t]? = some e := ⟨_, List.getElem?_eq_getElem (by omega)⟩
 have h5 := h4 t e he
 obtain ⟨sl, e1, h6, h7⟩ := h5
 cases e1
 exact ⟨_, _, fun k => h1.arr.load (by decide) he .i64 k, sl, rfl, h6, h7⟩
theorem Work.load {lo : Nat} {H : Heap} {v : SV} {ws : List SV} {m : Mx} {rows cols : Nat} (h : Work lo H v ws m rows cols) {i t : Nat} (hi : i < rows) (ht : t < cols) : ∃ w x y, ws[i]? = some w /\ (∀ k, slow.idx 1 v (i64 i) (fun p => slow.load 1 false p H k) = k w) /\ (∀ k, slow.idx 2 w (i64 t) (fun p => slow.load 2 true p H k) = k (.agg [x, y])) /\ IsInt H (.agg [x, y]) (m i t) := by
 obtain ⟨w, hw⟩ : ∃ w, ws[i]? = some w := ⟨_, List.getElem?_eq_getElem (by rw [h.len]; exact hi)⟩
 obtain ⟨x, y, h1, h2⟩ := (h.row i w hw).load ht
 exact ⟨w, x, y, hw, fun k => h.out.arr.load hw .i64 k, h1, h2⟩
theorem ownS_apart {lo lo' : Nat} {H : Heap} {v w : SV} {cs : List SV} {els : List (List SV)} (h : Own lo H v cs) (h' : OwnS 2 lo' H w els) {r : Nat} (hr : inRow v r) : ¬ inRow w r := fun hr' => by
 obtain ⟨base, rfl, h⟩ := h
 obtain ⟨s, o, e, h4⟩ := hr
 cases e
 obtain ⟨_, base', rfl, h'⟩ := h'
 obtain ⟨s', o', e', h5⟩ := hr'
 cases e'
 rcases h with ⟨rfl, _⟩ | ⟨r1, ver, rfl, _, h3⟩
 ·cases h4
 ·cases h4
  rcases h' with ⟨rfl, _⟩ | ⟨r2, ver', rfl, _, h6⟩
  ·cases h5
  ·cases h5
   rw [h3] at h6
   cases h6
def updM (m : Mx) (i t : Nat) (z : Int) : Mx := fun x y => if x = i /\ y = t then z else m x y
theorem Work.store {lo : Nat} {H : Heap} {v : SV} {ws : List SV} {m : Mx} {rows cols : Nat} (h : Work lo H v ws m rows cols) {i t : Nat} {w : SV} (hw : ws[i]? = some w) (ht : t < cols) {e : List SV} {z : Int} (he : IsInt H (.agg e) z) :
  ∃ H', (∀ k, slow.idx 2 w (i64 t) (fun p => slow.store 2 p (.agg e) H k) = k H') /\ Work lo H' v ws (updM m i t z) rows cols /\ Fr lo H H' /\ H'.size = H.size /\ ∀ u y, IsInt H u y -> IsInt H' u y := by
 obtain ⟨els, h1, h2, h3, h4⟩ := h.row i w hw
 obtain ⟨b, s, hes⟩ := he.cell
 obtain ⟨H', st, o', f', sz, hro⟩ := h1.store (i := t) (by omega) (e := e) (by rw [hes]; rfl) .i64
 have hX : ∀ r row', inRow w r -> H.get r = some row' -> ∀ c ∈ row'.cells, ∀ kd n, c ≠ .int kd n := fun r row' hr hg => by
  rw [OwnS.cells h1 hr hg]
  exact zCells_flat h3
 have hint : ∀ u y, IsInt H u y -> IsInt H' u y := fun u y hu => hu.keep hX fun r hr _ => hro r hr
 refine ⟨H', st, ⟨Own.of_rows h.out fun r hr => hro r (ownS_apart h.out h1 hr), h.len, fun q u hu => ?_, h.dis⟩, f', sz, hint⟩
 by_cases hq : q = i
 ·subst hq
  rw [hw] at hu
  cases hu
  refine ⟨els.set t e, o', by simp [h2], fun x hx => ?_, fun t' x hx => ?_⟩
  ·rcases List.mem_or_eq_of_mem_set hx with hx | rfl
   ·exact h3 x hx
   ·exact he.cell
  ·unfold updM
   by_cases ht' : t' = t
   ·subst ht'
    rw [if_pos ⟨rfl, rfl⟩]
    rw [List.getElem?_set_self (by omega)] at hx
    cases hx
    exact hint _ _ he
   ·rw [if_neg fun hh => ht' hh.2]
    rw [List.getElem?_set_ne (Ne.symm ht')] at hx
    exact hint _ _ (h4 t' x hx)
 ·refine ((h.row q u hu).keep hX (fun r hr _ => hro r hr) fun r hr hr' => hq (h.dis q i u w r hu hw hr hr')).congr fun t' _ => ?_
  unfold updM
  rw [if_neg fun hh => hq hh.1]
theorem swap_ws {ws : List SV} {p r : Nat} {a b : SV} (ha : ws[r]? = some a) (hb : ws[p]? = some b) (i : Nat) : ((ws.set p a).set r b)[i]? = if i = r then some b else if i = p then some a else ws[i]? := by
 have h1 := (List.getElem?_eq_some_iff.1 ha).1
 have h2 := (List.getElem?_eq_some_iff.1 hb).1
 by_cases e1 : i = r
 ·subst e1
  rw [if_pos rfl, List.getElem?_set_self (by simpa using h1)]
 ·rw [if_neg e1, List.getElem?_set_ne (Ne.symm e1)]
  by_cases e2 : i = p
  ·subst e2
   rw [if_pos rfl, List.getElem?_set_self h2]
  ·rw [if_neg e2, List.getElem?_set_ne (Ne.symm e2)]
theorem Work.swap {lo : Nat} {H : Heap} {v : SV} {ws : List SV} {m : Mx} {rows cols : Nat} (h : Work lo H v ws m rows cols) {p r : Nat} {a b : SV} (ha : ws[r]? = some a) (hb : ws[p]? = some b) :
  ∃ H' H'', (∀ k, slow.idx 1 v (i64 p) (fun q => slow.store 1 q a H k) = k H') /\ (∀ k, slow.idx 1 v (i64 r) (fun q => slow.store 1 q b H' k) = k H'') /\ Work lo H'' v ((ws.set p a).set r b) (swM m p r) rows cols /\ Fr lo H H'' /\ H''.size = H.size /\ ∀ u y, IsInt H u y -> IsInt H'' u y := by
 have l1 := (List.getElem?_eq_some_iff.1 ha).1
 have l2 := (List.getElem?_eq_some_iff.1 hb).1
 obtain ⟨ea, oa, _⟩ := h.row r a ha
 obtain ⟨eb, ob, _⟩ := h.row p b hb
 have sl : ∀ w ∈ ws, isSlice w := fun w hw => by
  obtain ⟨i, hi⟩ := List.getElem?_of_mem hw
  obtain ⟨ei, oi, _⟩ := h.row i w hi
  obtain ⟨_, base, rfl, _⟩ := oi
  trivial
 have hfa : a.flat = true := oa.arr.flat
 have hfb : b.flat = true := ob.arr.flat
 obtain ⟨H1, s1, o1, f1, z1, r1⟩ := h.out.store (i := p) l2 (x := a) hfa .i64
 obtain ⟨H2, s2, o2, f2, z2, r2⟩ := o1.store (i := r) (by simpa using l1) (x := b) hfb .i64
 have hX : ∀ q row', inRow v q -> H.get q = some row' -> ∀ c ∈ row'.cells, ∀ kd n, c ≠ .int kd n := fun q row' hr hg c hc => by
  rw [Own.cells h.out hr hg] at hc
  exact isSlice_not_int (sl c hc)
 have hro : ∀ q, ¬ inRow v q -> q < H.size -> H2.get q = H.get q := fun q hq _ => (r2 q hq).trans (r1 q hq)
 refine ⟨H1, H2, s1, s2, ⟨o2, by simp [h.len], fun i w hw => ?_, fun i j w w' q hw hw' hr hr' => ?_⟩, Fr.trans f1 f2, z2.trans z1, fun u y hu => hu.keep hX hro⟩
 ·have keep : ∀ i w, ws[i]? = some w -> ZRow lo H2 w (m i) cols := fun i w hw => by
   obtain ⟨ei, oi, _⟩ := h.row i w hw
   exact (h.row i w hw).keep hX hro fun q hq hv => ownS_apart h.out oi hv hq
  rw [swap_ws ha hb] at hw
  unfold swM
  by_cases e1 : i = r
  ·rw [if_pos e1] at hw ⊢
   cases hw
   exact keep p b hb
  ·rw [if_neg e1] at hw ⊢
   by_cases e2 : i = p
   ·rw [if_pos e2] at hw ⊢
    cases hw
    exact keep r a ha
   ·rw [if_neg e2] at hw ⊢
    exact keep i w hw
 ·rw [swap_ws ha hb] at hw hw'
  have idx : ∀ i w, (if i = r then some b else if i = p then some a else ws[i]?) = some w -> ws[if i = r then p else if i = p then r else i]? = some w := fun i w hh => by
   by_cases e1 : i = r
   ·rw [if_pos e1] at hh ⊢
    rw [hb]; exact hh
   ·rw [if_neg e1] at hh ⊢
    by_cases e2 : i = p
    ·rw [if_pos e2] at hh ⊢
     rw [ha]; exact hh
    ·rw [if_neg e2] at hh ⊢
     exact hh
  have := h.dis _ _ w w' q (idx i w hw) (idx j w' hw') hr hr'
  split at this <;> split at this <;> (try split at this) <;> (try split at this) <;> omega
end Go.Sh.Of
namespace Go.Sh.Of
open Go
theorem w_inc {a : Nat} (h : a < 1000000) (k : K1) : slow.add (i64 a) (.int .i64 1) k = k (i64 (a + 1)) := n_addi k (b := 1) (by omega)
def EntryB (C : CallC) (g : Nat) (b caps : List SV) (H0 : Heap) (rows cols : Nat) (E : Nat -> Nat -> Int) : Prop :=
 ∀ i j H, i < rows -> j < cols -> Frame H0 H -> ∃ r H', C g (b ++ ([i64 i, i64 j] ++ caps)) H = some (r, H') /\ Frame H H' /\ IsInt H' r (E i j)
theorem OwnS.mono2 {n lo lo' : Nat} {H : Heap} {v : SV} {els : List (List SV)} (h : OwnS n lo H v els) (hl : lo' <= lo) : OwnS n lo' H v els := by
 obtain ⟨h0, base, h1, h⟩ := h
 refine ⟨h0, base, h1, ?_⟩
 rcases h with h | ⟨r, ver, e, h2, h3⟩
 ·exact .inl h
 ·exact .inr ⟨r, ver, e, by omega, h3⟩
theorem OwnS.bd {n lo : Nat} {H : Heap} {v : SV} {els : List (List SV)} (h : OwnS n lo H v els) {r : Nat} (hr : inRow v r) : lo <= r /\ r < H.size := by
 obtain ⟨_, base, rfl, h⟩ := h
 obtain ⟨s, o, e, h4⟩ := hr
 cases e
 rcases h with ⟨rfl, _⟩ | ⟨r', ver, rfl, h2, h3⟩
 ·cases h4
 ·cases h4; exact ⟨h2, Heap.get_lt h3⟩
theorem Own.bd {lo : Nat} {H : Heap} {v : SV} {cs : List SV} (h : Own lo H v cs) {r : Nat} (hr : inRow v r) : lo <= r /\ r < H.size := by
 obtain ⟨base, rfl, h⟩ := h
 obtain ⟨s, o, e, h4⟩ := hr
 cases e
 rcases h with ⟨rfl, _⟩ | ⟨r', ver, rfl, h2, h3⟩
 ·cases h4
 ·cases h4; exact ⟨h2, Heap.get_lt h3⟩
theorem Work.slices {lo : Nat} {H : Heap} {v : SV} {ws : List SV} {m : Mx} {rows cols : Nat} (h : Work lo H v ws m rows cols) : ∀ w ∈ ws, isSlice w := fun w hw => by
 obtain ⟨i, hi⟩ := List.getElem?_of_mem hw
 obtain ⟨ei, oi, _⟩ := h.row i w hi
 obtain ⟨_, base, rfl, _⟩ := oi
 trivial
theorem madeW_in (C : CallC) (K : Nat) {g : Nat} {b caps : List SV} {H0 Hi : Heap} {rows cols : Nat} (hcols : cols < 100000) (hrows : rows < 100000) {E : Nat -> Nat -> Int} (hE : EntryB C g b caps H0 rows cols E) (h0i : Frame H0 Hi) {lo : Nat} {l : SV} {ws : List SV} (hl : Own lo Hi l ws) (hlo : lo <= Hi.size) (hwl : ws.length < 100000) (hws : ∀ w ∈ ws, isSlice w) {i : Nat} (hi : i < rows) (bx : SV) (k8 : SV -> SV -> SV -> SV -> SV -> SV -> Heap -> Rs) {row : SV} : ∀ (m j fuel : Nat) (H : Heap) (els : List (List SV)), j + m = cols -> m < fuel -> Frame Hi H -> OwnS 2 Hi.size H row els -> els.length = cols -> (∀ e ∈ els, zCell e) -> (∀ (q : Nat) e, q < j -> els[q]? = some e -> IsInt H (.agg e) (E i q)) ->
  ∃ l' H', slow.loop10 (f53_l3 slow K C k8) fuel (i64 cols) (.fn g b caps) bx l (i64 i) row (i64 rows) (i64 i) (i64 cols) (i64 j) H = k8 (i64 cols) (.fn g b caps) bx l' (i64 rows) (i64 (i + 1)) H' /\ Fr lo Hi H' /\ (∀ r, ¬ inRow l r -> r < Hi.size -> H'.get r = Hi.get r) /\ Own lo H' l' (ws ++ [row]) /\ ZRow Hi.size H' row (E i) cols
 | 0, j, fuel, H, els, hjm, hf, hfr, ho, hel, hcell, hdone => by
  obtain ⟨fuel, rfl⟩ : ∃ m, fuel = m + 1 := ⟨fuel - 1, by omega⟩
  have hj : j = cols := by omega
  subst hj
  have hz : ZRow Hi.size H row (E i) j := ⟨els, ho, hel, hcell, fun q e he => hdone q e (by have := (List.getElem?_eq_some_iff.1 he).1; omega) he⟩
  obtain ⟨u, H1, hu, hou, hfu, hru, hsz⟩ := z_lay1 (H := H) (lo := H.size) (Nat.le_refl _) (.slice nilSl) (x := row) ho.arr.flat
  have hl1 := (hl.fr hfr).fr hfu
  obtain ⟨l', H2, ha, ho2, hf2, hrw, hin, _⟩ := hl1.append (Nat.le_trans hlo (Nat.le_trans hfr.size hfu.size)) hou.arr (by_ := 24) (roomy_small (by simp; omega))
  refine ⟨l', H2, ?_, ?_, ?_, ho2, ?_⟩
  ·rw [z_loop10]
   have hlt : ¬ j < j := Nat.lt_irrefl j
   simp only [f53_l3, n_lss, decide_eq_false hlt, z_cond, cond_false, hu, ha, w_inc (show i < 1000000 by omega)]
  ·exact ((hfr.mono hlo).trans (hfu.mono (Nat.le_trans hlo hfr.size))).trans hf2
  ·intro r hr hlt
   have hrH : r < H.size := Nat.lt_of_lt_of_le hlt hfr.size
   rw [hrw r hr (Nat.lt_of_lt_of_le hrH hfu.size), hfu.rows r hrH, hfr.rows r hlt]
  ·refine (hz.fr hfu).keep (X := fun r => inRow l r) (fun r rw hr hg c hc => ?_) hrw fun r hr hr' => ?_
   ·have := Own.cells hl1 hr hg
    rw [this] at hc
    exact isSlice_not_int (hws c hc)
   ·have h1 := (OwnS.bd ho hr).1
    have h2 := (Own.bd hl hr').2
    omega
 | m + 1, j, fuel, H, els, hjm, hf, hfr, ho, hel, hcell, hdone => by
  obtain ⟨fuel, rfl⟩ : ∃ m, fuel = m + 1 := ⟨fuel - 1, by omega⟩
  have hlt : j < cols := by omega
  obtain ⟨r, H1, h1, f1, hr⟩ := hE i j H hi hlt (Frame.trans h0i hfr)
  obtain ⟨sl, rfl, hsl, hslf⟩ := hr
  have hint : IsInt H1 (.agg [.bool (decide (E i j < 0)), sl]) (E i j) := ⟨sl, rfl, hsl, hslf⟩
  have ho1 := ho.fr f1
  obtain ⟨H2, st, ho2, f2, sz2, hro⟩ := ho1.store (i := j) (by omega) (e := [.bool (decide (E i j < 0)), sl]) rfl .i64
  have hX : ∀ r row', inRow row r -> H1.get r = some row' -> ∀ c ∈ row'.cells, ∀ kd n, c ≠ .int kd n := fun r row' hr hg => by
   rw [OwnS.cells ho1 hr hg]
   exact zCells_flat hcell
  obtain ⟨l', H3, h3, h4⟩ := madeW_in C K hcols hrows hE h0i hl hlo hwl hws hi bx k8 m (j + 1) fuel H2 (els.set j [.bool (decide (E i j < 0)), sl]) (by omega) (by omega) (Fr.trans (Frame.trans hfr f1) f2) ho2 (by simpa using hel) (fun e he => by
   rcases List.mem_or_eq_of_mem_set he with he | rfl
   ·exact hcell e he
   ·exact hint.cell) (fun q e hq he => by
    by_cases hqj : q = j
    ·subst hqj
     rw [List.getElem?_set_self (by omega)] at he
     cases he
     exact hint.keep hX fun r hr _ => hro r hr
    ·rw [List.getElem?_set_ne (Ne.symm hqj)] at he
     exact ((hdone q e (by omega) he).fr f1).keep hX fun r hr _ => hro r hr)
  refine ⟨l', H3, ?_, h4⟩
  rw [z_loop10]
  simp only [f53_l3, n_lss, decide_eq_true hlt, z_cond, cond_true, z_callv, h1, z_call, st, w_inc (show j < 1000000 by omega)]
  exact h3
theorem madeW_out (C : CallC) (K : Nat) (hK : 100000 < K) {g : Nat} {b caps : List SV} {H0 : Heap} {rows cols : Nat} (hcols : cols < 100000) (hrows : rows < 100000) {E : Nat -> Nat -> Int} (hE : EntryB C g b caps H0 rows cols E) : ∀ (m i fuel : Nat) (H : Heap) (l : SV) (ws : List SV), i + m = rows -> m < fuel -> Frame H0 H -> Work H0.size H l ws E i cols ->
  ∃ l' ws' H', slow.loop6 (f53_l1 slow K C) fuel (i64 cols) (.fn g b caps) (.box [.slice nilSl]) l (i64 rows) (i64 i) H = some (.agg [l'], H') /\ Frame H0 H' /\ Work H0.size H' l' ws' E rows cols
 | 0, i, fuel, H, l, ws, him, hf, hfr, hw => by
  obtain ⟨fuel, rfl⟩ : ∃ m, fuel = m + 1 := ⟨fuel - 1, by omega⟩
  have hi : i = rows := by omega
  subst hi
  refine ⟨l, ws, H, ?_, hfr, hw⟩
  rw [z_loop6]
  have hlt : ¬ i < i := Nat.lt_irrefl i
  simp only [f53_l1, n_lss, decide_eq_false hlt, z_cond, cond_false, z_build1 _ _ hw.out.arr.flat, z_bst1, z_resc1]
 | m + 1, i, fuel, H, l, ws, him, hf, hfr, hw => by
  obtain ⟨fuel, rfl⟩ : ∃ m, fuel = m + 1 := ⟨fuel - 1, by omega⟩
  have hlt : i < rows := by omega
  have hwl := hw.len
  have hws := hw.slices
  obtain ⟨row, H1, h1, ho1, f1, hin1, sz1⟩ := z_makeS (H := H) (lo := H.size) (Nat.le_refl _) 2 32 (by decide) [.bool false, .slice nilSl] rfl cols (by omega) (roomy_small (by omega)) .i64 .i64
  obtain ⟨l', H2, h2, f2, hro2, ho2, hz2⟩ := madeW_in C K hcols hrows hE hfr (Hi := H) hw.out hfr.size (by omega) hws hlt (.box [.slice nilSl]) (slow.loop6 (f53_l1 slow K C) fuel) (row := row) cols 0 K H1 (List.replicate cols [.bool false, .slice nilSl]) (by omega) (by omega) f1 ho1 (by simp) (fun e he => by rw [List.eq_of_mem_replicate he]; exact ⟨_, _, rfl⟩) (fun q e hq => by omega)
  have hX : ∀ r row', inRow l r -> H.get r = some row' -> ∀ c ∈ row'.cells, ∀ kd n, c ≠ .int kd n := fun r row' hr hg c hc => by
   rw [Own.cells hw.out hr hg] at hc
   exact isSlice_not_int (hws c hc)
  have cases_q : ∀ (q : Nat) w, (ws ++ [row])[q]? = some w -> (q < i /\ ws[q]? = some w) \/ (q = i /\ w = row) := fun q w hq => by
   by_cases hqw : q < ws.length
   ·rw [List.getElem?_append_left hqw] at hq
    exact .inl ⟨by omega, hq⟩
   ·have hq2 : q = ws.length := by have := (List.getElem?_eq_some_iff.1 hq).1; simp at this; omega
    subst hq2
    simp at hq
    exact .inr ⟨by omega, hq.symm⟩
  obtain ⟨els2, os2, l2, c2, i2⟩ := hz2
  have hW : Work H0.size H2 l' (ws ++ [row]) E (i + 1) cols := by
   refine ⟨ho2, by simp [hwl], fun q w hq => ?_, fun q q' w w' r hq hq' hr hr' => ?_⟩
   ·rcases cases_q q w hq with ⟨a, hq⟩ | ⟨rfl, rfl⟩
    ·obtain ⟨ei, oi, _⟩ := hw.row q w hq
     exact (hw.row q w hq).keep hX hro2 fun r hr hl => ownS_apart hw.out oi hl hr
    ·exact ⟨els2, OwnS.mono2 os2 hfr.size, l2, c2, i2⟩
   ·rcases cases_q q w hq with ⟨a, b1⟩ | ⟨a, rfl⟩ <;> rcases cases_q q' w' hq' with ⟨a', b2⟩ | ⟨a', rfl⟩
    ·exact hw.dis q q' w w' r b1 b2 hr hr'
    ·obtain ⟨ei, oi, _⟩ := hw.row q w b1
     have h3 := (OwnS.bd oi hr).2
     have h4 := (OwnS.bd os2 hr').1
     omega
    ·obtain ⟨ei, oi, _⟩ := hw.row q' w' b2
     have h3 := (OwnS.bd oi hr').2
     have h4 := (OwnS.bd os2 hr).1
     omega
    ·omega
  obtain ⟨l3, ws3, H3, h3, g3⟩ := madeW_out C K hK hcols hrows hE m (i + 1) fuel H2 l' (ws ++ [row]) (by omega) (by omega) (Fr.trans hfr f2) hW
  refine ⟨l3, ws3, H3, ?_, g3⟩
  rw [z_loop6]
  simp only [f53_l1, n_lss, decide_eq_true hlt, z_cond, cond_true, h1]
  rw [ho1.arr.len, List.length_replicate, show (SV.int .i64 0) = i64 0 from rfl, h2]
  exact h3
theorem madeW_ok (K : Nat) (hK : 100000 < K) (d : Nat) {g : Nat} {b caps : List SV} {H0 : Heap} {rows cols : Nat} (hcols : cols < 100000) (hrows : rows < 100000) {E : Nat -> Nat -> Int} (hE : EntryB (runQ wk tab slow K d) g b caps H0 rows cols E) :
  ∃ l ws H', runQ wk tab slow K (d + 1) 53 [i64 rows, i64 cols, .fn g b caps] H0 = some (.agg [l], H') /\ Frame H0 H' /\ Work H0.size H' l ws E rows cols := by
 show ∃ l ws H', f53 slow K (runQ wk tab slow K d) (i64 rows) (i64 cols) (.fn g b caps) H0 = _ /\ _
 exact madeW_out _ K hK hcols hrows hE rows 0 K H0 (.slice nilSl) [] (by omega) (by omega) (Fr.refl _ _) ⟨Own.nil _ _, rfl, fun i w hw => by simp at hw, fun i j w w' r hw => by simp at hw⟩
theorem wat_ok (K : Nat) (d : Nat) (H : Heap) {v : SV} {A : List (List Int)} (hv : IsMat H v A) (hg : Good A) {i j : Nat} (hi : i < A.length) (hj : j < colsOf A) :
  ∃ r, runQ wk tab slow K (d + 2) 35 [v, i64 i, i64 j] H = some (r, H) /\ IsInt H r (ent A i j) := by
 have hsz := msize_ok K d H hv
 obtain ⟨w, rfl, hr⟩ := hv
 obtain ⟨u, x, y, g1, g2, g3⟩ := hr.entry hg hi hj
 show ∃ r, f35 slow K (runQ wk tab slow K (d + 1)) (.agg [w]) (i64 i) (i64 j) H = _ /\ _
 have h1 : ¬ (i : Int) < 0 := by omega
 have h2 : ¬ (i : Int) >= (A.length : Int) := by omega
 have h3 : ¬ (j : Int) < 0 := by omega
 have h4 : ¬ (j : Int) >= (colsOf A : Int) := by omega
 refine ⟨.agg [x, y], ?_, g3⟩
 simp only [f35, z_bbox, z_lload1, hsz, z_call, z_ext0, z_ext1, z_lss, z_geq, decide_eq_false h1, decide_eq_false h2, decide_eq_false h3, decide_eq_false h4, z_guard, cond_false, f35_j1, z_cond, z_lfld, z_lld0, g1, g2, z_bst2, z_resc2]
theorem verEq_same (o : Option Nat) : verEq o o = true := by
 cases o with
 | none => rfl
 | some a => simp [verEq]
theorem Own.place {lo : Nat} {H : Heap} {v : SV} {cs : List SV} (h : Own lo H v cs) {i : Nat} {x : SV} (hx : cs[i]? = some x) :
  ∃ p, (∀ k, slow.idx 1 v (i64 i) k = k p) /\ (∀ H', Own lo H' v cs -> ∀ k, slow.load 1 false p H' k = k x) /\ ∀ H' H'' t, Own lo H' v cs -> Frame H' H'' -> slow.same p H' H'' t = t := by
 have hi : i < cs.length := (List.getElem?_eq_some_iff.1 hx).1
 obtain ⟨base, rfl, h⟩ := h
 rcases h with ⟨_, rfl⟩ | ⟨r, ver, rfl, h1, h2⟩
 ·simp at hi
 ·have hc : 0 <= (i : Int) /\ (i : Int) < cs.length := ⟨by omega, by omega⟩
  have row : ∀ H', Own lo H' (.slice ⟨some (r, 0), cs.length, none, 0⟩) cs -> ∃ ver', H'.get r = some ⟨2, 1, ver', cs⟩ := fun H' ⟨base', e, h'⟩ => by
   cases e
   rcases h' with ⟨e, _⟩ | ⟨r', ver', e, _, g⟩
   ·cases e
   ·cases e
    exact ⟨ver', g⟩
  refine ⟨.ptr (r, 0 + (i : Int).toNat * 1), fun k => ?_, fun H' hH k => ?_, fun H' H'' t hH f => ?_⟩
  ·show (opP (.idx 1) [.slice ⟨some (r, 0), cs.length, none, 0⟩, i64 i]).bind _ = _
   simp only [opP, if_pos hc, Option.bind_some]
  ·obtain ⟨ver', g⟩ := row H' hH
   have b3 : Nat.beq 2 0 = false := rfl
   show (opR (.load 1 false) [.ptr (r, 0 + (i : Int).toNat * 1)] H').bind k = _
   simp only [opR, Heap.read, g, b3, cond_false, Int.toNat_natCast, Nat.mul_one, Nat.zero_add, cut_one hx, shaped, Option.bind_some]
  ·obtain ⟨ver', g⟩ := row H' hH
   have e : H''.ver r = H'.ver r := by unfold Heap.ver; rw [f.rows r (Heap.get_lt g)]
   show (bif sameRow (.ptr (r, 0 + (i : Int).toNat * 1)) H' H'' then t else none) = t
   simp only [sameRow, rowOf, e, verEq_same, cond_true]
def partE (m : Mx) (last : Int) (r j i k : Nat) : Mx := fun x y => if x < i then elimM m last r j x y else if x = i then (if j < y /\ y < k then elimE m last r j i y else m i y) else m x y
theorem elim_in (K : Nat) (hK : 200000 < K) (d : Nat) {H0 : Heap} {v db sgv lb ls : SV} {ws : List SV} {m : Mx} {last : Int} {rows cols r j i : Nat} (hrows : rows <= 16) (hcols : cols <= 16) (hb : BOk rows cols m last r j) (hr : r < i) (hi : i < rows) (hj : j < cols) (k72 : SV -> SV -> SV -> SV -> SV -> SV -> SV -> SV -> SV -> Heap -> Rs) : ∀ (n k fuel : Nat) (H : Heap), k + n = cols -> n < fuel -> j < k -> Frame H0 H -> Work H0.size H v ws (partE m last r j i k) rows cols -> IsInt H (.agg [lb, ls]) last ->
  ∃ H', slow.loop10 (f56_l14 slow K (runQ wk tab slow K (d + 7)) k72) fuel db (i64 rows) (i64 cols) v (.box [lb, ls]) sgv (i64 r) (i64 j) (i64 i) (i64 k) H = k72 db (i64 rows) (i64 cols) v (.box [lb, ls]) sgv (i64 r) (i64 j) (i64 (i + 1)) H' /\ Frame H0 H' /\ Work H0.size H' v ws (partE m last r j (i + 1) (j + 1)) rows cols /\ IsInt H' (.agg [lb, ls]) last
 | 0, k, fuel, H, hkn, hf, hjk, hfr, hw, hl => by
  obtain ⟨fuel, rfl⟩ : ∃ q, fuel = q + 1 := ⟨fuel - 1, by omega⟩
  have e : k = cols := by omega
  subst e
  have hlt : ¬ k < k := Nat.lt_irrefl k
  obtain ⟨wi, hwi⟩ : ∃ w, ws[i]? = some w := ⟨_, List.getElem?_eq_getElem (by rw [hw.len]; exact hi)⟩
  obtain ⟨H', st, W, f', _, hint⟩ := hw.store hwi hj (e := [.bool false, .slice nilSl]) (IsInt.zero H)
  refine ⟨H', ?_, Fr.trans hfr f', W.congr fun x y hx hy => ?_, hint _ _ hl⟩
  ·rw [z_loop10]
   have hz : ∀ k, slow.build [.bool false, .slice nilSl] [] [] k = k (.agg [.bool false, .slice nilSl]) := fun k => z_build0 k _
   simp only [f56_l14, n_lss, decide_eq_false hlt, z_cond, cond_false, hw.out.arr.load hwi, hz, st, w_inc (show i < 1000000 by omega)]
  ·unfold updM partE
   by_cases a : x = i /\ y = j
   ·obtain ⟨rfl, rfl⟩ := a
    rw [if_pos ⟨rfl, rfl⟩, if_pos (show x < x + 1 by omega)]
    unfold elimM
    rw [if_pos hr, if_pos rfl]
   ·rw [if_neg a]
    by_cases b : x < i
    ·rw [if_pos b, if_pos (show x < i + 1 by omega)]
    ·rw [if_neg b]
     by_cases c : x = i
     ·subst c
      have hyj : y ≠ j := fun e => a ⟨rfl, e⟩
      rw [if_pos rfl, if_pos (show x < x + 1 by omega)]
      unfold elimM
      rw [if_pos hr, if_neg hyj]
      by_cases e : j < y
      ·rw [if_pos ⟨e, hy⟩, if_pos e]
      ·rw [if_neg (fun h => e h.1), if_neg e]
     ·rw [if_neg c, if_neg (show ¬ x < i + 1 by omega)]
      by_cases c' : x = i + 1
      ·rw [if_pos c', if_neg (show ¬ (j < y /\ y < j + 1) by omega), c']
      ·rw [if_neg c']
 | n + 1, k, fuel, H, hkn, hf, hjk, hfr, hw, hl => by
  obtain ⟨fuel, rfl⟩ : ∃ q, fuel = q + 1 := ⟨fuel - 1, by omega⟩
  have hk : k < cols := by omega
  have hrr : r < rows := by omega
  obtain ⟨wi, hwi⟩ : ∃ w, ws[i]? = some w := ⟨_, List.getElem?_eq_getElem (by rw [hw.len]; exact hi)⟩
  obtain ⟨wr, hwr⟩ : ∃ w, ws[r]? = some w := ⟨_, List.getElem?_eq_getElem (by rw [hw.len]; exact hrr)⟩
  obtain ⟨pi, pi1, pi2, pi3⟩ := Own.place hw.out hwi
  obtain ⟨pr, pr1, pr2, pr3⟩ := Own.place hw.out hwr
  have erj : partE m last r j i k r j = m r j := by unfold partE; rw [if_pos hr]; unfold elimM; rw [if_neg (Nat.lt_irrefl r)]
  have erk : partE m last r j i k r k = m r k := by unfold partE; rw [if_pos hr]; unfold elimM; rw [if_neg (Nat.lt_irrefl r)]
  have eij : partE m last r j i k i j = m i j := by unfold partE; rw [if_neg (Nat.lt_irrefl i), if_pos rfl, if_neg (by omega)]
  have eik : partE m last r j i k i k = m i k := by unfold partE; rw [if_neg (Nat.lt_irrefl i), if_pos rfl, if_neg (by omega)]
  have brj := hb.ent r j (Nat.le_refl _) hrr (Nat.le_refl _) hj
  have brk := hb.ent r k (Nat.le_refl _) hrr (by omega) hk
  have bij := hb.ent i j (by omega) hi (Nat.le_refl _) hj
  have bik := hb.ent i k (by omega) hi (by omega) hk
  obtain ⟨a1, a2, a3, a4⟩ := (hw.row r wr hwr).load hj
  obtain ⟨b1, b2, b3, b4⟩ := (hw.row i wi hwi).load hk
  rw [erj] at a4
  rw [eik] at b4
  obtain ⟨x, H1, h1, g1, n1⟩ := zmul_ok K hK (d + 2) H a4 b4 brj bik
  rw [show d + 2 + 5 = d + 7 from rfl] at h1
  rw [fitZ_yes (hb.p1 i k hr hi hjk hk)] at n1
  have hw1 := hw.fr g1
  obtain ⟨c1, c2, c3, c4⟩ := (hw1.row i wi hwi).load hj
  obtain ⟨d1, d2, d3, d4⟩ := (hw1.row r wr hwr).load hk
  rw [eij] at c4
  rw [erk] at d4
  obtain ⟨y, H2, h2, g2, n2⟩ := zmul_ok K hK (d + 2) H1 c4 d4 bij brk
  rw [show d + 2 + 5 = d + 7 from rfl] at h2
  rw [fitZ_yes (hb.p2 i k hr hi hjk hk)] at n2
  obtain ⟨z, H3, h3, g3, n3⟩ := zsub_ok K (by omega) (d + 1) H2 (n1.fr g2) n2 (hb.p1 i k hr hi hjk hk) (hb.p2 i k hr hi hjk hk)
  rw [show d + 1 + 6 = d + 7 from rfl] at h3
  rw [fitZ_yes (hb.df i k hr hi hjk hk)] at n3
  have hl3 := ((hl.fr g1).fr g2).fr g3
  obtain ⟨q, H4, h4, g4, n4⟩ := zexact_ok K hK d H3 n3 hl3 hb.nz (hb.dv i k hr hi hjk hk) (hb.df i k hr hi hjk hk) hb.sl
  have hw3 := (hw1.fr g2).fr g3
  have hw4 := hw3.fr g4
  have n4' := n4
  obtain ⟨q2, rfl, _, _⟩ := n4
  obtain ⟨H5, st, W, f5, _, hint⟩ := hw4.store hwi hk n4'
  have hW : Work H0.size H5 v ws (partE m last r j i (k + 1)) rows cols := W.congr fun x' y' hx hy => by
   unfold updM partE
   by_cases a : x' = i /\ y' = k
   ·obtain ⟨rfl, rfl⟩ := a
    rw [if_pos ⟨rfl, rfl⟩, if_neg (Nat.lt_irrefl _), if_pos rfl, if_pos ⟨hjk, by omega⟩]
    rfl
   ·rw [if_neg a]
    by_cases b : x' < i
    ·rw [if_pos b, if_pos b]
    ·rw [if_neg b, if_neg b]
     by_cases c : x' = i
     ·subst c
      have hyk : y' ≠ k := fun e => a ⟨rfl, e⟩
      rw [if_pos rfl, if_pos rfl]
      by_cases e : j < y' /\ y' < k
      ·rw [if_pos e, if_pos ⟨e.1, by omega⟩]
      ·rw [if_neg e, if_neg (by omega)]
     ·rw [if_neg c, if_neg c]
  obtain ⟨H6, h6, g6⟩ := elim_in K hK d (db := db) (sgv := sgv) hrows hcols hb hr hi hj k72 n (k + 1) fuel H5 (by omega) (by omega) (by omega) (Fr.trans (Frame.trans hfr (Frame.trans g1 (Frame.trans g2 (Frame.trans g3 g4)))) f5) hW (hint _ _ (hl3.fr g4))
  obtain ⟨x2, rfl, _, _⟩ := n1
  obtain ⟨y2, rfl, _, _⟩ := n2
  obtain ⟨z2, rfl, _, _⟩ := n3
  refine ⟨H6, ?_, g6⟩
  rw [z_loop10]
  simp only [f56_l14, n_lss, decide_eq_true hk, z_cond, cond_true, pr1, pi1, pr2 H hw.out, pi2 H hw.out, a3, b3, h1, z_call, z_ext0, z_ext1, z_bst2, pr2 H1 hw1.out, pi2 H1 hw1.out, c3, d3, h2, z_lload2, h3, pi2 H3 hw3.out, h4, st, pi3 H3 H4 _ hw3.out g4, w_inc (show k < 1000000 by omega)]
  exact h6
end Go.Sh.Of
namespace Go.Sh.Of
open Go
theorem part_all (m : Mx) (last : Int) (r j k : Nat) {rows x : Nat} (hx : x < rows) (y : Nat) : partE m last r j rows k x y = elimM m last r j x y := by
 unfold partE
 rw [if_pos hx]
theorem part_start (m : Mx) (last : Int) (r j x y : Nat) : partE m last r j (r + 1) (j + 1) x y = m x y := by
 unfold partE
 by_cases h : x < r + 1
 ·rw [if_pos h]
  unfold elimM
  rw [if_neg (by omega)]
 ·rw [if_neg h]
  by_cases h2 : x = r + 1
  ·rw [if_pos h2, if_neg (by omega), h2]
  ·rw [if_neg h2]
theorem elim_out (K : Nat) (hK : 200000 < K) (d : Nat) {H0 : Heap} {v db sgv lb ls : SV} {ws : List SV} {m : Mx} {last : Int} {rows cols r j : Nat} (hrows : rows <= 16) (hcols : cols <= 16) (hb : BOk rows cols m last r j) (hr : r < rows) (hj : j < cols) (k24 : SV -> SV -> SV -> SV -> SV -> SV -> SV -> SV -> Heap -> Rs) : ∀ (n i fuel : Nat) (H : Heap), i + n = rows -> n < fuel -> r < i -> Frame H0 H -> Work H0.size H v ws (partE m last r j i (j + 1)) rows cols -> IsInt H (.agg [lb, ls]) last ->
  ∃ H' lb' ls', slow.loop9 (f56_l12 slow K (runQ wk tab slow K (d + 7)) k24) fuel db (i64 rows) (i64 cols) v (.box [lb, ls]) sgv (i64 r) (i64 j) (i64 i) H = f56_j9 slow K (runQ wk tab slow K (d + 7)) k24 db (i64 rows) (i64 cols) v (.box [lb', ls']) sgv (i64 (r + 1)) (i64 j) H' /\ Frame H0 H' /\ Work H0.size H' v ws (elimM m last r j) rows cols /\ IsInt H' (.agg [lb', ls']) (m r j)
 | 0, i, fuel, H, hin, hf, hri, hfr, hw, hl => by
  obtain ⟨fuel, rfl⟩ : ∃ q, fuel = q + 1 := ⟨fuel - 1, by omega⟩
  have e : i = rows := by omega
  subst e
  have hlt : ¬ i < i := Nat.lt_irrefl i
  obtain ⟨w, x, y, hwr, l1, l2, l3⟩ := hw.load hr hj
  rw [part_all _ _ _ _ _ hr] at l3
  have em : elimM m last r j r j = m r j := by unfold elimM; rw [if_neg (Nat.lt_irrefl r)]
  rw [em] at l3
  refine ⟨H, x, y, ?_, hfr, hw.congr fun x' y' hx hy => part_all _ _ _ _ _ hx y', l3⟩
  rw [z_loop9]
  simp only [f56_l12, n_lss, decide_eq_false hlt, z_cond, cond_false, l1, l2, z_bst2, w_inc (show r < 1000000 by omega)]
 | n + 1, i, fuel, H, hin, hf, hri, hfr, hw, hl => by
  obtain ⟨fuel, rfl⟩ : ∃ q, fuel = q + 1 := ⟨fuel - 1, by omega⟩
  have hi : i < rows := by omega
  obtain ⟨H1, h1, g1, w1, i1⟩ := elim_in K hK d (db := db) (sgv := sgv) hrows hcols hb hri hi hj (slow.loop9 (f56_l12 slow K (runQ wk tab slow K (d + 7)) k24) fuel) (cols - (j + 1)) (j + 1) K H (by omega) (by omega) (by omega) hfr hw hl
  obtain ⟨H2, lb', ls', h2, g2⟩ := elim_out K hK d hrows hcols hb hr hj k24 n (i + 1) fuel H1 (by omega) (by omega) (by omega) g1 w1 i1
  refine ⟨H2, lb', ls', ?_, g2⟩
  rw [z_loop9]
  simp only [f56_l12, n_lss, decide_eq_true hi, z_cond, cond_true, w_inc (show j < 1000000 by omega)]
  exact h1.trans h2
theorem sign_zero (z : Int) : (signZ z == 0) = decide (z = 0) := by
 unfold signZ
 by_cases h : z = 0
 ·rw [if_pos h, decide_eq_true h]; rfl
 ·rw [if_neg h, decide_eq_false h]
  split <;> rfl
theorem piv_loop (K : Nat) (d : Nat) {H : Heap} {v db lbx sgv : SV} {ws : List SV} {m : Mx} {lo rows cols r j : Nat} (hrows : rows <= 16) (hw : Work lo H v ws m rows cols) (hj : j < cols) (hb : ∀ x, r <= x -> x < rows -> (m x j).natAbs < 2 ^ 4096) (k24 : SV -> SV -> SV -> SV -> SV -> SV -> SV -> SV -> Heap -> Rs) : ∀ (n p fuel : Nat), p + n = rows -> n < fuel -> r <= p ->
  slow.loop9 (f56_l4 slow K (runQ wk tab slow K (d + 7)) k24) fuel db (i64 rows) (i64 cols) v lbx sgv (i64 r) (i64 j) (i64 p) H = f56_j5 slow K (runQ wk tab slow K (d + 7)) k24 (fun _ _ _ _ _ _ _ _ _ _ => none) db (i64 rows) (i64 cols) v lbx sgv (i64 r) (i64 j) (i64 (pivN m j p n)) (.bool false) H
 | 0, p, fuel, hpn, hf, hrp => by
  obtain ⟨fuel, rfl⟩ : ∃ q, fuel = q + 1 := ⟨fuel - 1, by omega⟩
  have hlt : ¬ p < rows := by omega
  rw [z_loop9]
  simp only [f56_l4, n_lss, decide_eq_false hlt, z_guard, cond_false, f56_j5, z_cond, pivN]
 | n + 1, p, fuel, hpn, hf, hrp => by
  obtain ⟨fuel, rfl⟩ : ∃ q, fuel = q + 1 := ⟨fuel - 1, by omega⟩
  have hlt : p < rows := by omega
  obtain ⟨w, x, y, hwr, l1, l2, l3⟩ := hw.load hlt hj
  have hs := zsign_ok K (d + 4) H l3 (hb p hrp hlt)
  rw [show d + 4 + 3 = d + 7 from rfl] at hs
  rw [z_loop9]
  simp only [f56_l4, n_lss, decide_eq_true hlt, z_guard, cond_true, l1, l2, hs, z_call, z_eql, sign_zero]
  by_cases h0 : m p j = 0
  ·rw [decide_eq_true h0]
   unfold pivN
   rw [if_pos h0, <- piv_loop K d hrows hw hj hb k24 n (p + 1) fuel (by omega) (by omega) (by omega)]
   simp only [f56_j5, z_cond, cond_true, w_inc (show p < 1000000 by omega)]
  ·rw [decide_eq_false h0]
   unfold pivN
   rw [if_neg h0]
   simp only [f56_j5, z_cond, cond_false]
def sgI (s : Bool) : Int := if s then -1 else 1
theorem z_negs (s : Bool) (k : K1) : slow.u_neg (.int .i64 (sgI s)) k = k (.int .i64 (sgI (!s))) := by
 cases s <;> rfl
theorem BInv.lastSmall {rows cols : Nat} {A : Mx} {c : Nat -> Nat} {j : Nat} {s : BSt} {N X cc : Nat} (h : BInv rows cols A c j s) (hb : Bd rows cols A N X cc) (hj : j <= cols) : s.last.natAbs < 2 ^ 4096 := by
 have hrj := h.rj
 have hrr := h.rr
 have hc : ∀ y, y < s.r -> c y < cols := fun y hy => by have := h.cj y hy; omega
 have hN : s.r <= N := by rw [hb.hN]; omega
 have hl := hb.pdet hN hrr hc
 rw [<- h.last] at hl
 by_cases h0 : N = 0
 ·have : s.r = 0 := by omega
  rw [this, Nat.pow_zero] at hl
  exact Nat.lt_of_le_of_lt hl one_big
 ·exact hb.small (by omega) (s := s.r) (by omega) hl
theorem steps_loop (K : Nat) (hK : 200000 < K) (d : Nat) {H0 : Heap} {v : SV} {rows cols N X cc : Nat} (hrows : rows <= 16) (hcols : cols <= 16) : ∀ (n j fuel : Nat) (H : Heap) (ws : List SV) (lb ls : SV) (s : BSt) (A : Mx) (c : Nat -> Nat), j + n = cols -> n < fuel -> Frame H0 H -> Work H0.size H v ws s.m rows cols -> IsInt H (.agg [lb, ls]) s.last -> BInv rows cols A c j s -> Bd rows cols A N X cc ->
  ∃ y H', slow.loop8 (f56_l1 slow K (runQ wk tab slow K (d + 7))) fuel (.box [.bool false, .slice nilSl]) (i64 rows) (i64 cols) v (.box [lb, ls]) (.int .i64 (sgI s.sg)) (i64 s.r) (i64 j) H = some (.tuple [i64 (brun rows n j s).r, y], H') /\ Frame H0 H' /\ IsInt H' y (bval rows (brun rows n j s)) := fun n => by
 have last : ∀ (H : Heap) (lb ls : SV) (s : BSt) (A : Mx) (c : Nat -> Nat) (j : Nat) (F : SV -> SV -> SV -> SV -> SV -> SV -> SV -> SV -> Heap -> Rs), j <= cols -> Frame H0 H -> IsInt H (.agg [lb, ls]) s.last -> BInv rows cols A c j s -> Bd rows cols A N X cc -> ∃ y H', f56_j2 slow K (runQ wk tab slow K (d + 7)) F (.box [.bool false, .slice nilSl]) (i64 rows) (i64 cols) v (.box [lb, ls]) (.int .i64 (sgI s.sg)) (i64 s.r) (i64 j) (.bool false) H = some (.tuple [i64 s.r, y], H') /\ Frame H0 H' /\ IsInt H' y (bval rows s) := fun H lb ls s A c j F hj hfr hl hI hb => by
  have hz : ∀ k, slow.build [.bool false, .slice nilSl] [] [] k = k (.agg [.bool false, .slice nilSl]) := fun k => z_build0 k _
  by_cases h1 : s.r < rows
  ·refine ⟨.agg [.bool false, .slice nilSl], H, ?_, hfr, ?_⟩
   ·simp only [f56_j2, z_cond, cond_false, n_lss, decide_eq_true h1, cond_true, hz, z_bst2, z_rest_int, z_resc2]
   ·unfold bval
    rw [if_pos h1]
    exact IsInt.zero H
  ·cases hsg : s.sg with
   | true =>
    obtain ⟨y, h2, n2⟩ := zneg_ok K (d + 3) H hl (hI.lastSmall hb hj)
    rw [show d + 3 + 4 = d + 7 from rfl] at h2
    have n2' := n2
    obtain ⟨y2, rfl, _, _⟩ := n2
    refine ⟨.agg [.bool (decide (-s.last < 0)), y2], H, ?_, hfr, ?_⟩
    ·have hn : ∀ k, slow.lss (.int .i64 (sgI true)) (.int .i64 0) k = k (.bool true) := fun k => by rw [z_lss]; rfl
     simp only [f56_j2, z_cond, cond_false, n_lss, decide_eq_false h1, hn, cond_true, z_lload2, h2, z_call, z_bst2, z_rest_int, z_resc2]
    ·unfold bval
     rw [if_neg h1, if_pos hsg]
     exact n2'
   | false =>
    refine ⟨.agg [lb, ls], H, ?_, hfr, ?_⟩
    ·have hn : ∀ k, slow.lss (.int .i64 (sgI false)) (.int .i64 0) k = k (.bool false) := fun k => by rw [z_lss]; rfl
     simp only [f56_j2, z_cond, cond_false, n_lss, decide_eq_false h1, hn, z_lload2, z_bst2, z_rest_int, z_resc2]
    ·unfold bval
     rw [if_neg h1, if_neg (by rw [hsg]; decide)]
     exact hl
 induction n with
 | zero =>
  intro j fuel H ws lb ls s A c hjn hf hfr hw hl hI hb
  obtain ⟨fuel, rfl⟩ : ∃ q, fuel = q + 1 := ⟨fuel - 1, by omega⟩
  have hlt : ¬ j < cols := by omega
  obtain ⟨y, H', h1, g1⟩ := last H lb ls s A c j (slow.loop8 (f56_l1 slow K (runQ wk tab slow K (d + 7))) fuel) (by omega) hfr hl hI hb
  refine ⟨y, H', ?_, g1⟩
  rw [z_loop8]
  simp only [f56_l1, n_lss, decide_eq_false hlt, z_guard, cond_false]
  exact h1
 | succ n ih =>
  intro j fuel H ws lb ls s A c hjn hf hfr hw hl hI hb
  obtain ⟨fuel, rfl⟩ : ∃ q, fuel = q + 1 := ⟨fuel - 1, by omega⟩
  have hj : j < cols := by omega
  rw [z_loop8]
  simp only [f56_l1, n_lss, decide_eq_true hj, z_guard, cond_true]
  by_cases hr : s.r < rows
  ·have hent := (hI.ok hb hr hj).ent
   have hpv := piv_loop K d (db := .box [.bool false, .slice nilSl]) (lbx := .box [lb, ls]) (sgv := .int .i64 (sgI s.sg)) hrows hw hj (fun x a b => hent x j a b (Nat.le_refl _) hj) (slow.loop8 (f56_l1 slow K (runQ wk tab slow K (d + 7))) fuel) (rows - s.r) s.r K (by omega) (by omega) (Nat.le_refl _)
   obtain ⟨p1, p2, p3, p4⟩ := pivN_spec s.m j (rows - s.r) s.r
   obtain ⟨A', c', hI', hb'⟩ := hI.col hb hr hj
   have hbr : brun rows (n + 1) j s = brun rows n (j + 1) (bcol rows j s) := by
    show (if s.r < rows then brun rows n (j + 1) (bcol rows j s) else s) = _
    rw [if_pos hr]
   rw [hbr]
   by_cases e : pivN s.m j s.r (rows - s.r) = rows
   ·have hbc : bcol rows j s = s := by unfold bcol; rw [if_pos e]
    rw [hbc] at hI' ⊢
    obtain ⟨y, H', h1, g1⟩ := ih (j + 1) fuel H ws lb ls s A' c' (by omega) (by omega) hfr hw hl hI' hb'
    refine ⟨y, H', ?_, g1⟩
    rw [e] at hpv
    simp only [decide_eq_true hr, f56_j2, z_cond, cond_true]
    rw [hpv]
    simp only [f56_j5, z_cond, cond_false, n_eql, decide_eq_true (show rows = rows from rfl), cond_true, f56_j9, w_inc (show j < 1000000 by omega)]
    exact h1
   ·have hbc : bcol rows j s = ⟨s.r + 1, elimM (swM s.m (pivN s.m j s.r (rows - s.r)) s.r) s.last s.r j, s.m (pivN s.m j s.r (rows - s.r)) j, if pivN s.m j s.r (rows - s.r) = s.r then s.sg else !s.sg⟩ := by unfold bcol; rw [if_neg e]
    generalize pivN s.m j s.r (rows - s.r) = p at *
    have hp : p < rows := by omega
    have hIs := hI.swap p1 hp s.sg
    have hok : BOk rows cols (swM s.m p s.r) s.last s.r j := hIs.ok (hb.swap hp hr) hr hj
    have esw : swM s.m p s.r s.r j = s.m p j := by unfold swM; rw [if_pos rfl]
    have next : ∀ (H2 : Heap) (ws2 : List SV) (sg : Bool), Frame H0 H2 -> Work H0.size H2 v ws2 (swM s.m p s.r) rows cols -> IsInt H2 (.agg [lb, ls]) s.last -> sg = (if p = s.r then s.sg else !s.sg) -> ∃ y H', f56_j11 slow K (runQ wk tab slow K (d + 7)) (slow.loop8 (f56_l1 slow K (runQ wk tab slow K (d + 7))) fuel) (.box [.bool false, .slice nilSl]) (i64 rows) (i64 cols) v (.box [lb, ls]) (.int .i64 (sgI sg)) (i64 s.r) (i64 j) H2 = some (.tuple [i64 (brun rows n (j + 1) (bcol rows j s)).r, y], H') /\ Frame H0 H' /\ IsInt H' y (bval rows (brun rows n (j + 1) (bcol rows j s))) := fun H2 ws2 sg hf2 hw2 hl2 hsg => by
     obtain ⟨H3, lb', ls', h3, g3, w3, i3⟩ := elim_out K hK d (db := .box [.bool false, .slice nilSl]) (sgv := .int .i64 (sgI sg)) hrows hcols hok hr hj (slow.loop8 (f56_l1 slow K (runQ wk tab slow K (d + 7))) fuel) (rows - (s.r + 1)) (s.r + 1) K H2 (by omega) (by omega) (by omega) hf2 (hw2.congr fun x y _ _ => (part_start _ _ _ _ _ _).symm) hl2
     rw [esw] at i3
     rw [hbc] at hI' ⊢
     obtain ⟨y, H4, h4, g4⟩ := ih (j + 1) fuel H3 ws2 lb' ls' _ A' c' (by omega) (by omega) g3 w3 i3 hI' hb'
     refine ⟨y, H4, ?_, g4⟩
     simp only [f56_j11, w_inc (show s.r < 1000000 by omega)]
     rw [h3]
     simp only [f56_j9, w_inc (show j < 1000000 by omega), hsg]
     exact h4
    simp only [decide_eq_true hr, f56_j2, z_cond, cond_true]
    by_cases epr : p = s.r
    ·obtain ⟨y, H', h1, g1⟩ := next H ws s.sg hfr (hw.congr fun x y _ _ => by rw [epr, swM_self]) hl (by rw [if_pos epr])
     refine ⟨y, H', ?_, g1⟩
     rw [hpv]
     have hd : decide (p ≠ s.r) = false := decide_eq_false fun h => h epr
     simp only [f56_j5, z_cond, cond_false, n_eql, decide_eq_false e, n_neq, hd]
     exact h1
    ·obtain ⟨wr, hwr⟩ : ∃ w, ws[s.r]? = some w := ⟨_, List.getElem?_eq_getElem (by rw [hw.len]; exact hr)⟩
     obtain ⟨wp, hwp⟩ : ∃ w, ws[p]? = some w := ⟨_, List.getElem?_eq_getElem (by rw [hw.len]; exact hp)⟩
     obtain ⟨H1, H2, s1, s2, w2, f2, _, hint⟩ := hw.swap hwr hwp
     obtain ⟨y, H', h1, g1⟩ := next H2 _ (!s.sg) (Fr.trans hfr f2) w2 (hint _ _ hl) (by rw [if_neg epr])
     refine ⟨y, H', ?_, g1⟩
     rw [hpv]
     have hd : decide (p ≠ s.r) = true := decide_eq_true epr
     simp only [f56_j5, z_cond, cond_false, n_eql, decide_eq_false e, n_neq, hd, cond_true, hw.out.arr.load hwr, hw.out.arr.load hwp, s1, s2, z_negs]
     exact h1
  ·obtain ⟨y, H', h1, g1⟩ := last H lb ls s A c j (slow.loop8 (f56_l1 slow K (runQ wk tab slow K (d + 7))) fuel) (by omega) hfr hl hI hb
   have hbr : brun rows (n + 1) j s = s := by
    show (if s.r < rows then brun rows n (j + 1) (bcol rows j s) else s) = _
    rw [if_neg hr]
   rw [hbr]
   refine ⟨y, H', ?_, g1⟩
   simp only [decide_eq_false hr]
   exact h1
theorem steps_run (K d : Nat) (H : Heap) (v : SV) : runQ wk tab slow K (d + 8) 56 [v] H = f56 slow K (runQ wk tab slow K (d + 7)) v H := Eq.trans rfl rfl
theorem steps_ok (K : Nat) (hK : 200000 < K) (d : Nat) (H : Heap) {a : SV} {R : List (List Int)} (ha : IsMat H a R) (hg : Good R) (hrows : R.length <= 16) (hcols : colsOf R <= 16) {N X cc : Nat} (hb : Bd R.length (colsOf R) (ent R) N X cc) :
  ∃ y H', runQ wk tab slow K (d + 8) 56 [a] H = some (.tuple [i64 (brun R.length (colsOf R) 0 (bstart (ent R))).r, y], H') /\ Frame H H' /\ IsInt H' y (bval R.length (brun R.length (colsOf R) 0 (bstart (ent R)))) := by
 have hsz := msize_ok K (d + 6) H ha
 rw [show d + 6 + 1 = d + 7 from rfl] at hsz
 obtain ⟨l, ws, H1, h1, g1, w1⟩ := madeW_ok K (by omega) (d + 6) (g := 35) (b := [a]) (caps := []) (H0 := H) (rows := R.length) (cols := colsOf R) (by omega) (by omega) (E := ent R) (fun i j H' hi hj hf => by
  obtain ⟨r, h2, n2⟩ := wat_ok K (d + 4) H' (ha.fr hf) hg hi hj
  exact ⟨r, H', h2, Fr.refl _ _, n2⟩)
 rw [show d + 6 + 1 = d + 7 from rfl] at h1
 obtain ⟨o, H2, h2, g2, n2⟩ := zof_ok K (by omega) (d + 4) H1 (z := 1) (by decide) (by decide)
 rw [show d + 4 + 3 = d + 7 from rfl] at h2
 have n2' := n2
 obtain ⟨ol, rfl, _, _⟩ := n2
 obtain ⟨y, H3, h3, g3, n3⟩ := steps_loop K hK d (H0 := H) hrows hcols (colsOf R) 0 K H2 ws _ _ (bstart (ent R)) (ent R) (fun _ => 0) (by omega) (by omega) (Frame.trans g1 g2) (w1.fr g2) n2' (BInv.start _ _ _) hb
 obtain ⟨w, rfl, hr⟩ := ha
 have hwf := hr.flat
 refine ⟨y, H3, ?_, g3, n3⟩
 have hmk : ∀ k, slow.mkfn 35 1 [.agg [w]] k = k (.fn 35 [.agg [w]] []) := fun k => by
  obtain ⟨ws', ⟨s, rfl, _⟩, _⟩ := hr
  rfl
 rw [steps_run]
 simp only [f56, z_bbox, z_lload1, hsz, z_call, z_ext0, z_ext1, hmk, h1, z_field0, h2, z_bst2]
 exact h3
end Go.Sh.Of
namespace Go.Sh.Of
open Go
theorem len_ok (K : Nat) (d : Nat) (H : Heap) {n : Nat} (hn : n < 256) : runQ wk tab slow K (d + 2) 84 [u64 n] H = some (i64 (bl n), H) := by
 have hbl : bl n <= 8 := bl_small (by simpa using hn)
 have hst : ∀ k, slow.stridx (.str len8) (u8 n) k = k (u8 (bl n)) := fun k => by
  have e : (UInt8.ofNat (bl n)).toNat = bl n := by simp; omega
  rw [z_stridx k (len8_get hn) .u8, e]
 have h64 : runQ wk tab slow K (d + 1) 90 [u64 n] H = some (i64 (bl n), H) := by
  show f90 slow K (runQ wk tab slow K d) (u64 n) H = _
  have g1 : ∀ k, slow.geq (u64 n) (.int .u64 4294967296) k = k (.bool false) := fun k => by rw [show (SV.int .u64 4294967296) = u64 4294967296 from rfl, n_geq, decide_eq_false (by omega)]
  have g2 : ∀ k, slow.geq (u64 n) (.int .u64 65536) k = k (.bool false) := fun k => by rw [show (SV.int .u64 65536) = u64 65536 from rfl, n_geq, decide_eq_false (by omega)]
  have g3 : ∀ k, slow.geq (u64 n) (.int .u64 256) k = k (.bool false) := fun k => by rw [show (SV.int .u64 256) = u64 256 from rfl, n_geq, decide_eq_false (by omega)]
  have g4 : ∀ k, slow.conv .u8 (u64 n) k = k (u8 n) := fun k => by rw [n_conv8, Nat.mod_eq_of_lt hn]
  have g5 : ∀ k, slow.conv .i64 (u8 (bl n)) k = k (i64 (bl n)) := fun k => n_convi k .u8 _ (by omega)
  have g6 : ∀ k, slow.add (.int .i64 0) (i64 (bl n)) k = k (i64 (bl n)) := fun k => by
   have := n_addi k (a := 0) (b := bl n) (by omega)
   rw [Nat.zero_add] at this
   exact this
  unfold f90
  rw [g1, z_cond, cond_false]
  unfold f90_j1
  rw [g2, z_cond, cond_false]
  unfold f90_j2
  rw [g3, z_cond, cond_false]
  unfold f90_j3
  rw [g4]
  rw [hst, g5, g6, z_rest_int]
 show f84 slow K (runQ wk tab slow K (d + 1)) (u64 n) H = _
 simp only [f84, h64, z_call, z_rest_int]
def wRow (w : Nat) (zs : List Int) : Nat := zs.foldl (fun w z => max w (bl z.natAbs)) w
def wMat (w : Nat) (R : List (List Int)) : Nat := R.foldl wRow w
def wideB (R : List (List Int)) : Bool := decide (2 * min R.length (colsOf R) * (wMat 0 R + bl (min R.length (colsOf R))) > 4096)
theorem wRow_ge : ∀ (zs : List Int) (w : Nat), w <= wRow w zs /\ ∀ z ∈ zs, bl z.natAbs <= wRow w zs
 | [], w => ⟨Nat.le_refl _, fun z hz => by cases hz⟩
 | z :: zs, w => by
  obtain ⟨h1, h2⟩ := wRow_ge zs (max w (bl z.natAbs))
  refine ⟨Nat.le_trans (Nat.le_max_left _ _) h1, fun y hy => ?_⟩
  rcases List.mem_cons.1 hy with rfl | hy
  ·exact Nat.le_trans (Nat.le_max_right _ _) h1
  ·exact h2 y hy
theorem wMat_ge : ∀ (R : List (List Int)) (w : Nat), w <= wMat w R /\ ∀ r ∈ R, ∀ z ∈ r, bl z.natAbs <= wMat w R
 | [], w => ⟨Nat.le_refl _, fun r hr => by cases hr⟩
 | r :: R, w => by
  obtain ⟨h1, h2⟩ := wMat_ge R (wRow w r)
  obtain ⟨h3, h4⟩ := wRow_ge r w
  refine ⟨Nat.le_trans h3 h1, fun s hs z hz => ?_⟩
  rcases List.mem_cons.1 hs with rfl | hs
  ·exact Nat.le_trans (h4 z hz) h1
  ·exact h2 s hs z hz
theorem wRow_le : ∀ (zs : List Int) (w : Nat), w <= 4096 -> (∀ z ∈ zs, z.natAbs < 2 ^ 4096) -> wRow w zs <= 4096
 | [], w, h, _ => h
 | z :: zs, w, h, hz => wRow_le zs _ (Nat.max_le.2 ⟨h, bl_le.2 (hz z (by simp))⟩) fun y hy => hz y (by simp [hy])
theorem wMat_le : ∀ (R : List (List Int)) (w : Nat), w <= 4096 -> (∀ r ∈ R, ∀ z ∈ r, z.natAbs < 2 ^ 4096) -> wMat w R <= 4096
 | [], w, h, _ => h
 | r :: R, w, h, hz => wMat_le R _ (wRow_le r w h (hz r (by simp))) fun s hs => hz s (by simp [hs])
theorem z_maxn (a b : Nat) (k : K1) : slow.max [i64 a, i64 b] k = k (i64 (max a b)) := by
 rw [z_max2]
 congr 1
 congr 1
 rw [Nat.max_def]
 split <;> split <;> omega
theorem z_minn (a b : Nat) (k : K1) : slow.min [i64 a, i64 b] k = k (i64 (min a b)) := by
 rw [z_min2]
 congr 1
 congr 1
 rw [Nat.min_def]
 split <;> split <;> omega
theorem wide_in (K : Nat) (d : Nat) {H : Heap} {u bx rv rn : SV} {zs : List Int} (hu : IsZs H u zs) (hz : ∀ z ∈ zs, z.natAbs < 2 ^ 4096) (hl : zs.length <= 16) {i : Nat} (hi : i < 1000) (k11 : SV -> SV -> SV -> SV -> SV -> Heap -> Rs) : ∀ (rest : List Int) (k fuel w : Nat), zs.drop k = rest -> rest.length < fuel ->
  slow.loop8 (f72_l3 slow K (runQ wk tab slow K (d + 2)) k11) fuel bx (i64 w) rv rn (i64 i) u (i64 zs.length) (i64 k) H = k11 bx (i64 (wRow w rest)) rv rn (i64 (i + 1)) H
 | [], k, fuel, w, hd, hf => by
  obtain ⟨fuel, rfl⟩ : ∃ q, fuel = q + 1 := ⟨fuel - 1, by omega⟩
  have hlt : ¬ k < zs.length := by have := List.drop_eq_nil_iff.1 hd; omega
  rw [z_loop8]
  simp only [f72_l3, n_lss, decide_eq_false hlt, z_cond, cond_false, w_inc (show i < 1000000 by omega)]
  rfl
 | z :: rest, k, fuel, w, hd, hf => by
  obtain ⟨fuel, rfl⟩ : ∃ q, fuel = q + 1 := ⟨fuel - 1, by omega⟩
  have hlt : k < zs.length := Decidable.byContradiction fun h => by
   rw [List.drop_eq_nil_iff.2 (by omega)] at hd
   cases hd
  have hget : zs[k]? = some z := by
   have := List.getElem?_drop (xs := zs) (i := k) (j := 0)
   rw [hd] at this
   simpa using this.symm
  have hd' : zs.drop (k + 1) = rest := by
   rw [<- List.drop_drop, hd]
   rfl
  obtain ⟨x, y, h1, h2⟩ := hu.load hget
  have hzz := hz z (List.mem_of_getElem? hget)
  obtain ⟨r, h3, n3⟩ := zabs_ok K (d + 1) H h2
  rw [show d + 1 + 1 = d + 2 from rfl] at h3
  have h4 := bits_ok K d H n3 (by have := dg_len hzz; omega)
  rw [z_loop8]
  have h1' : ∀ k', slow.idx 2 u (i64 k) (fun p => slow.load 2 true p H k') = k' (.agg [x, y]) := fun k' => h1 .i64 k'
  simp only [f72_l3, n_lss, decide_eq_true hlt, z_cond, cond_true, h1', z_bst2, z_lload2, h3, z_call, h4, z_maxn, w_inc (show k < 1000000 by omega)]
  exact wide_in K d hu hz hl hi k11 rest (k + 1) fuel (max w (bl z.natAbs)) hd' (by simp at hf; omega)
theorem wide_out (K : Nat) (hK : 1000 < K) (d : Nat) {H : Heap} {a v : SV} {R : List (List Int)} (ha : a = .agg [v]) (hm : IsMat H a R) (hv : IsRows H v R) (hg : ∀ r ∈ R, ∀ z ∈ r, z.natAbs < 2 ^ 4096) (hr : R.length <= 16) (hc : ∀ r ∈ R, r.length <= 16) (hcc : colsOf R <= 16) : ∀ (rest : List (List Int)) (i fuel w : Nat), R.drop i = rest -> rest.length < fuel -> wMat w rest = wMat 0 R -> wMat 0 R <= 4096 ->
  slow.loop5 (f72_l1 slow K (runQ wk tab slow K (d + 2))) fuel (.box [v]) (i64 w) v (i64 R.length) (i64 i) H = some (.bool (wideB R), H)
 | [], i, fuel, w, hd, hf, hw, hle => by
  obtain ⟨fuel, rfl⟩ : ∃ q, fuel = q + 1 := ⟨fuel - 1, by omega⟩
  have hlt : ¬ i < R.length := by have := List.drop_eq_nil_iff.1 hd; omega
  subst ha
  have hsz := msize_ok K (d + 1) H hm
  rw [show d + 1 + 1 = d + 2 from rfl] at hsz
  have hw' : w = wMat 0 R := hw
  obtain ⟨n, hn⟩ : ∃ n, min R.length (colsOf R) = n := ⟨_, rfl⟩
  have hn16 : n <= 16 := by omega
  have hl := len_ok K d H (show n < 256 by omega)
  have hbl : bl n <= 5 := bl_le.2 (by show n < 32; omega)
  have hm1 : 2 * n * (w + bl n) <= 32 * 5000 := Nat.mul_le_mul (by omega) (by omega)
  have e1 : ∀ k, slow.mul (.int .i64 2) (i64 n) k = k (i64 (2 * n)) := fun k => n_muli k (a := 2) (by omega)
  have e2 : ∀ k, slow.conv .u64 (i64 n) k = k (u64 n) := fun k => n_conv64 k .i64 n (by omega)
  have e3 : ∀ k, slow.add (i64 w) (i64 (bl n)) k = k (i64 (w + bl n)) := fun k => n_addi k (by omega)
  have e4 : ∀ k, slow.mul (i64 (2 * n)) (i64 (w + bl n)) k = k (i64 (2 * n * (w + bl n))) := fun k => n_muli k (by omega)
  have e5 : ∀ k, slow.gtr (i64 (2 * n * (w + bl n))) (.int .i64 4096) k = k (.bool (decide (2 * n * (w + bl n) > 4096))) := fun k => n_gtr k .i64 _ 4096
  rw [z_loop5]
  simp only [f72_l1, n_lss, decide_eq_false hlt, z_cond, cond_false, z_lload1, hsz, z_call, z_ext0, z_ext1, z_minn, hn, e1, e2, hl, e3, e4, e5, z_rest_bool]
  unfold wideB
  rw [hn, hw']
 | r :: rest, i, fuel, w, hd, hf, hw, hle => by
  obtain ⟨fuel, rfl⟩ : ∃ q, fuel = q + 1 := ⟨fuel - 1, by omega⟩
  have hlt : i < R.length := Decidable.byContradiction fun h => by
   rw [List.drop_eq_nil_iff.2 (by omega)] at hd
   cases hd
  have hget : R[i]? = some r := by
   have := List.getElem?_drop (xs := R) (i := i) (j := 0)
   rw [hd] at this
   simpa using this.symm
  have hd' : R.drop (i + 1) = rest := by
   rw [<- List.drop_drop, hd]
   rfl
  have hrm := List.mem_of_getElem? hget
  obtain ⟨u, h1, h2⟩ := hv.load hget
  have h1' : ∀ k', slow.idx 1 v (i64 i) (fun p => slow.load 1 false p H k') = k' u := fun k' => h1 .i64 k'
  have hrl := hc r hrm
  rw [z_loop5]
  simp only [f72_l1, n_lss, decide_eq_true hlt, z_cond, cond_true, h1', h2.len]
  rw [show (SV.int .i64 0) = i64 0 from rfl, wide_in K d h2 (hg r hrm) hrl (show i < 1000 by omega) _ r 0 K w rfl (by omega)]
  exact wide_out K hK d ha hm hv hg hr hc hcc rest (i + 1) fuel (wRow w r) hd' (by simp at hf; omega) hw hle
theorem wide_ok (K : Nat) (hK : 1000 < K) (d : Nat) (H : Heap) {a : SV} {R : List (List Int)} (ha : IsMat H a R) (hg : ∀ r ∈ R, ∀ z ∈ r, z.natAbs < 2 ^ 4096) (hr : R.length <= 16) (hc : ∀ r ∈ R, r.length <= 16) (hcc : colsOf R <= 16) :
  runQ wk tab slow K (d + 3) 72 [a] H = some (.bool (wideB R), H) := by
 have ha' := ha
 obtain ⟨v, rfl, hv⟩ := ha
 show f72 slow K (runQ wk tab slow K (d + 2)) (.agg [v]) H = _
 simp only [f72, z_bbox, z_lfld, z_lld0, hv.len]
 exact wide_out K hK d rfl ha' hv hg hr hc hcc R 0 K 0 rfl (by omega) rfl (wMat_le R 0 (by omega) hg)
theorem wide_bd {R : List (List Int)} (hw : wideB R = false) : Bd R.length (colsOf R) (ent R) (min R.length (colsOf R)) (min R.length (colsOf R) * 2 ^ wMat 0 R) (2 ^ wMat 0 R) := by
 have hle := of_decide_eq_false hw
 generalize hn : min R.length (colsOf R) = n at *
 generalize hww : wMat 0 R = w at *
 refine ⟨hn.symm, rfl, Nat.pow_pos (by decide), ?_, fun i k hi hk => ?_⟩
 ·by_cases h0 : n = 0
  ·subst h0
   rw [Nat.mul_zero, Nat.pow_zero]
   exact one_big
  ·have hnl : n < 2 ^ bl n := bl_le.1 (Nat.le_refl _)
   have h1 : n * 2 ^ w < 2 ^ (bl n + w) := by
    rw [Nat.pow_add]
    exact Nat.mul_lt_mul_of_pos_right hnl (Nat.pow_pos (by decide))
   have h2 : (n * 2 ^ w) ^ (2 * n) < (2 ^ (bl n + w)) ^ (2 * n) := Nat.pow_lt_pow_left h1 (by omega)
   rw [<- Nat.pow_mul] at h2
   refine Nat.lt_of_lt_of_le h2 (pow_mono2 _ 4096 ?_)
   rw [Nat.mul_comm, Nat.add_comm]
   omega
 ·obtain ⟨r, hr⟩ : ∃ r, R[i]? = some r := ⟨_, List.getElem?_eq_getElem hi⟩
  by_cases hkr : k < r.length
  ·obtain ⟨z, hz⟩ : ∃ z, r[k]? = some z := ⟨_, List.getElem?_eq_getElem hkr⟩
   rw [ent_get hr hz]
   have h1 := (wMat_ge R 0).2 r (List.mem_of_getElem? hr) z (List.mem_of_getElem? hz)
   rw [hww] at h1
   exact Nat.le_of_lt (bl_le.1 h1)
  ·have : ent R i k = 0 := by
    unfold ent
    rw [hr]
    simp [List.getElem?_eq_none (show r.length <= k by omega)]
   rw [this]
   exact Nat.zero_le _
def sqE (R : List (List Int)) : Int := if R.length ≠ colsOf R then 5 else if wideB R then 3 else 0
def detR (R : List (List Int)) : Int := bval R.length (brun R.length (colsOf R) 0 (bstart (ent R)))
theorem square_ok (K : Nat) (hK : 1000 < K) (d : Nat) (H : Heap) {a : SV} {R : List (List Int)} (ha : IsMat H a R) (hg : ∀ r ∈ R, ∀ z ∈ r, z.natAbs < 2 ^ 4096) (hr : R.length <= 16) (hc : ∀ r ∈ R, r.length <= 16) (hcc : colsOf R <= 16) :
  runQ wk tab slow K (d + 4) 55 [a] H = some (.int .i64 (sqE R), H) := by
 have hsz := msize_ok K (d + 2) H ha
 rw [show d + 2 + 1 = d + 3 from rfl] at hsz
 have hw := wide_ok K hK d H ha hg hr hc hcc
 obtain ⟨v, rfl, hv⟩ := ha
 show f55 slow K (runQ wk tab slow K (d + 3)) (.agg [v]) H = _
 simp only [f55, z_bbox, z_lload1, hsz, z_call, z_ext0, z_ext1, n_neq]
 unfold sqE
 by_cases h : R.length ≠ colsOf R
 ·rw [decide_eq_true h, if_pos h]
  simp only [z_cond, cond_true]
 ·rw [decide_eq_false h, if_neg h]
  simp only [z_cond, cond_false, hw, z_call]
  cases hb : wideB R <;> simp
theorem det_run (K d : Nat) (H : Heap) (v : SV) : runQ wk tab slow K (d + 9) 32 [v] H = f32 slow K (runQ wk tab slow K (d + 8)) v H := Eq.trans rfl rfl
theorem det_ok (K : Nat) (hK : 200000 < K) (d : Nat) (H : Heap) {a : SV} {R : List (List Int)} (ha : IsMat H a R) (hgd : Good R) (hg : ∀ r ∈ R, ∀ z ∈ r, z.natAbs < 2 ^ 4096) (hr : R.length <= 16) (hc : ∀ r ∈ R, r.length <= 16) (hcc : colsOf R <= 16) :
  ∃ y H', runQ wk tab slow K (d + 9) 32 [a] H = some (.tuple [y, .int .i64 (sqE R)], H') /\ Frame H H' /\ IsInt H' y (if sqE R = 0 then detR R else 0) := by
 have hsq := square_ok K (by omega) (d + 4) H ha hg hr hc hcc
 rw [show d + 4 + 4 = d + 8 from rfl] at hsq
 rw [det_run]
 by_cases h : sqE R = 0
 ·have hw : wideB R = false := by
   unfold sqE at h
   split at h
   ·cases h
   ·cases hb : wideB R with
    | false => rfl
    | true => rw [hb] at h; cases h
  obtain ⟨y, H1, h1, g1, n1⟩ := steps_ok K hK d H ha hgd hr hcc (wide_bd hw)
  have n1' := n1
  obtain ⟨y2, rfl, _, _⟩ := n1
  obtain ⟨v, rfl, hv⟩ := ha
  refine ⟨_, H1, ?_, g1, by rw [if_pos h]; exact n1'⟩
  simp only [f32, z_bbox, z_lload1, hsq, z_call, z_neq, h, bne_self_eq_false, z_cond, cond_false, h1, z_ext0, z_ext1, z_bst2, z_lload2, z_resc2]
 ·obtain ⟨v, rfl, hv⟩ := ha
  have hb : (sqE R != 0) = true := by simp [h]
  have hz : ∀ k, slow.build [.bool false, .slice nilSl] [] [] k = k (.agg [.bool false, .slice nilSl]) := fun k => z_build0 k _
  refine ⟨.agg [.bool false, .slice nilSl], H, ?_, Fr.refl _ _, by rw [if_neg h]; exact IsInt.zero H⟩
  simp only [f32, z_bbox, z_lload1, hsq, z_call, z_neq, hb, z_cond, cond_true, hz, z_bst2, z_resc2, z_rest_int]
end Go.Sh.Of
namespace Go.Sh.Of
open Go
def IntsW (H : Heap) (v : SV) (ws : List SV) (A : List (List Int)) : Prop := Arr H v ws /\ ws.length = A.length /\ ∀ (i : Nat) w r, ws[i]? = some w -> A[i]? = some r -> Arr H w (intsL .i64 r)
theorem IntsW.of {H : Heap} {v : SV} {A : List (List Int)} (h : IsInts2 H v A) : ∃ ws, IntsW H v ws A := by
 obtain ⟨ws, h1, h2, h3⟩ := h
 exact ⟨ws, h1, by simpa using h2, fun i w r hw hr => h3 i w _ hw (by simp [hr])⟩
theorem IntsW.to {H : Heap} {v : SV} {ws : List SV} {A : List (List Int)} (h : IntsW H v ws A) : IsInts2 H v A := ⟨ws, h.1, by simpa using h.2.1, fun i w cs hw hc => by
 rw [List.getElem?_map, Option.map_eq_some_iff] at hc
 obtain ⟨r, hr, rfl⟩ := hc
 exact h.2.2 i w r hw hr⟩
def inB (P : Nat -> Nat -> Bool) (i : Nat) : Nat -> Nat -> Bool
 | 0, _ => true
 | m + 1, j => P i j && inB P i m (j + 1)
def outB (P : Nat -> Nat -> Bool) : List (List Int) -> Nat -> Bool
 | [], _ => true
 | r :: l, i => inB P i r.length 0 && outB P l (i + 1)
theorem inB_iff {P : Nat -> Nat -> Bool} {i : Nat} : ∀ {m j : Nat}, inB P i m j = true ↔ ∀ k, j <= k -> k < j + m -> P i k = true
 | 0, j => ⟨fun _ k h1 h2 => by omega, fun _ => rfl⟩
 | m + 1, j => by
  unfold inB
  rw [Bool.and_eq_true, inB_iff]
  constructor
  ·intro ⟨h1, h2⟩ k h3 h4
   by_cases e : k = j
   ·rw [e]; exact h1
   ·exact h2 k (by omega) (by omega)
  ·intro h
   exact ⟨h j (Nat.le_refl _) (by omega), fun k h1 h2 => h k (by omega) (by omega)⟩
theorem outB_iff {P : Nat -> Nat -> Bool} : ∀ {l : List (List Int)} {i : Nat}, outB P l i = true ↔ ∀ x r k, l[x]? = some r -> k < r.length -> P (i + x) k = true
 | [], i => ⟨fun _ x r k hx => by simp at hx, fun _ => rfl⟩
 | a :: l, i => by
  unfold outB
  rw [Bool.and_eq_true, inB_iff, outB_iff]
  constructor
  ·intro ⟨h1, h2⟩ x r k hx hk
   cases x with
   | zero =>
    simp only [List.getElem?_cons_zero, Option.some.injEq] at hx
    subst hx
    exact h1 k (Nat.zero_le _) (by omega)
   | succ x =>
    have := h2 x r k (by simpa using hx) hk
    rwa [show i + 1 + x = i + (x + 1) by omega] at this
  ·intro h
   refine ⟨fun k _ hk => h 0 a k rfl (by omega), fun x r k hx hk => ?_⟩
   have := h (x + 1) r k (by simpa using hx) hk
   rwa [show i + (x + 1) = i + 1 + x by omega] at this
def LookOk (C : CallC) (g : Nat) (b caps : List SV) (A : List (List Int)) (P : Nat -> Nat -> Bool) (I : Nat -> Nat -> Heap -> Prop) : Prop :=
 ∀ i j r z H, A[i]? = some r -> r[j]? = some z -> I i j H -> ∃ H', C g (b ++ ([i64 i, i64 j, .int .i64 z] ++ caps)) H = some (.bool (P i j), H') /\ I i (j + 1) H'
theorem each_in (C : CallC) (K : Nat) {v : SV} {ws : List SV} {A : List (List Int)} {g : Nat} {b caps : List SV} {P : Nat -> Nat -> Bool} {I : Nat -> Nat -> Heap -> Prop} (hv : ∀ i j H, I i j H -> IntsW H v ws A) (hL : LookOk C g b caps A P I) {i : Nat} {r : List Int} {w : SV} (hr : A[i]? = some r) (hw : ws[i]? = some w) (hi : i < 1000000) (hrl : r.length < 1000000) (k7 : SV -> SV -> SV -> SV -> Heap -> Rs) : ∀ (m j fuel : Nat) (H : Heap), j + m = r.length -> m < fuel -> I i j H ->
  ∃ H' j', slow.loop8 (f23_l3 slow K C k7) fuel v (.fn g b caps) (i64 i) (i64 A.length) (i64 i) w (i64 r.length) (i64 j) H = (if inB P i m j then k7 v (.fn g b caps) (i64 A.length) (i64 (i + 1)) H' else some (.bool false, H')) /\ I i j' H' /\ (inB P i m j = true -> j' = r.length)
 | 0, j, fuel, H, hjm, hf, hI => by
  obtain ⟨fuel, rfl⟩ : ∃ q, fuel = q + 1 := ⟨fuel - 1, by omega⟩
  have hlt : ¬ j < r.length := by omega
  refine ⟨H, j, ?_, hI, fun _ => by omega⟩
  rw [z_loop8]
  simp only [f23_l3, n_lss, decide_eq_false hlt, z_cond, cond_false, w_inc (show i < 1000000 by omega)]
  rfl
 | m + 1, j, fuel, H, hjm, hf, hI => by
  obtain ⟨fuel, rfl⟩ : ∃ q, fuel = q + 1 := ⟨fuel - 1, by omega⟩
  have hlt : j < r.length := by omega
  obtain ⟨z, hz⟩ : ∃ z, r[j]? = some z := ⟨_, List.getElem?_eq_getElem hlt⟩
  obtain ⟨H1, h1, I1⟩ := hL i j r z H hr hz hI
  have hld : ∀ k, slow.idx 1 w (i64 j) (fun p => slow.load 1 false p H k) = k (.int .i64 z) := fun k => ((hv i j H hI).2.2 i w r hw hr).load (by simp [intsL, hz]) .i64 k
  rw [z_loop8]
  simp only [f23_l3, n_lss, decide_eq_true hlt, z_cond, cond_true, hld, z_callv]
  simp only [List.cons_append, List.nil_append] at h1 ⊢
  simp only [h1, z_call, z_not, z_cond]
  cases hP : P i j with
  | false =>
   refine ⟨H1, j + 1, ?_, I1, fun h => ?_⟩
   ·unfold inB
    rw [hP]
    rfl
   ·unfold inB at h
    rw [hP] at h
    cases h
  | true =>
   obtain ⟨H2, j2, h2, I2, e2⟩ := each_in C K hv hL hr hw hi hrl k7 m (j + 1) fuel H1 (by omega) (by omega) I1
   have e : inB P i (m + 1) j = inB P i m (j + 1) := by
    show (P i j && inB P i m (j + 1)) = _
    rw [hP, Bool.true_and]
   refine ⟨H2, j2, ?_, I2, fun h => e2 (e.symm.trans h)⟩
   rw [e]
   simp only [Bool.not_true, cond_false, w_inc (show j < 1000000 by omega)]
   exact h2
theorem each_out (C : CallC) (K : Nat) {v : SV} {ws : List SV} {A : List (List Int)} {g : Nat} {b caps : List SV} {P : Nat -> Nat -> Bool} {I : Nat -> Nat -> Heap -> Prop} (hv : ∀ i j H, I i j H -> IntsW H v ws A) (hL : LookOk C g b caps A P I) (hrow : ∀ i r H, A[i]? = some r -> I i r.length H -> I (i + 1) 0 H) (hal : A.length < 1000000) (hrl : ∀ r ∈ A, r.length < 1000000 /\ r.length < K) : ∀ (rest : List (List Int)) (i fuel : Nat) (H : Heap), A.drop i = rest -> rest.length < fuel -> i <= A.length -> I i 0 H ->
  ∃ H' i' j', slow.loop4 (f23_l1 slow K C) fuel v (.fn g b caps) (i64 A.length) (i64 i) H = some (.bool (outB P rest i), H') /\ I i' j' H' /\ (outB P rest i = true -> i' = A.length /\ j' = 0)
 | [], i, fuel, H, hd, hf, hil, hI => by
  obtain ⟨fuel, rfl⟩ : ∃ q, fuel = q + 1 := ⟨fuel - 1, by omega⟩
  have hlt : ¬ i < A.length := by have := List.drop_eq_nil_iff.1 hd; omega
  have e : i = A.length := by omega
  refine ⟨H, i, 0, ?_, hI, fun _ => ⟨e, rfl⟩⟩
  rw [z_loop4]
  simp only [f23_l1, n_lss, decide_eq_false hlt, z_cond, cond_false]
  rfl
 | r :: rest, i, fuel, H, hd, hf, hil, hI => by
  obtain ⟨fuel, rfl⟩ : ∃ q, fuel = q + 1 := ⟨fuel - 1, by omega⟩
  have hlt : i < A.length := Decidable.byContradiction fun h => by
   rw [List.drop_eq_nil_iff.2 (by omega)] at hd
   cases hd
  have hget : A[i]? = some r := by
   have := List.getElem?_drop (xs := A) (i := i) (j := 0)
   rw [hd] at this
   simpa using this.symm
  have hd' : A.drop (i + 1) = rest := by
   rw [<- List.drop_drop, hd]
   rfl
  have hW := hv i 0 H hI
  obtain ⟨w, hw⟩ : ∃ w, ws[i]? = some w := ⟨_, List.getElem?_eq_getElem (by rw [hW.2.1]; exact hlt)⟩
  obtain ⟨hrl1, hrl2⟩ := hrl r (List.mem_of_getElem? hget)
  have hlen : ∀ k, slow.len w k = k (i64 r.length) := fun k => by
   rw [(hW.2.2 i w r hw hget).len]
   simp [intsL]
  have hld : ∀ k, slow.idx 1 v (i64 i) (fun p => slow.load 1 false p H k) = k w := fun k => hW.1.load hw .i64 k
  obtain ⟨H1, j1, h1, I1, e1⟩ := each_in C K hv hL hget hw (by omega) hrl1 (slow.loop4 (f23_l1 slow K C) fuel) r.length 0 K H (by omega) (by omega) hI
  rw [z_loop4]
  simp only [f23_l1, n_lss, decide_eq_true hlt, z_cond, cond_true, hld, hlen]
  rw [show (SV.int .i64 0) = i64 0 from rfl, h1]
  unfold outB
  cases hb : inB P i r.length 0 with
  | false =>
   exact ⟨H1, i, j1, rfl, I1, fun h => by simp at h⟩
  | true =>
   have ej := e1 hb
   subst ej
   obtain ⟨H2, i2, j2, h2, I2, e2⟩ := each_out C K hv hL hrow hal hrl rest (i + 1) fuel H1 hd' (by simp at hf; omega) (by omega) (hrow i r H1 hget I1)
   refine ⟨H2, i2, j2, ?_, I2, fun h => e2 (by simpa using h)⟩
   rw [if_pos rfl, h2, Bool.true_and]
theorem each_run (K d : Nat) (H : Heap) (v f : SV) : runQ wk tab slow K (d + 1) 23 [v, f] H = f23 slow K (runQ wk tab slow K d) v f H := Eq.trans rfl rfl
theorem each_ok (K d : Nat) (H : Heap) {v : SV} {ws : List SV} {A : List (List Int)} {g : Nat} {b caps : List SV} {P : Nat -> Nat -> Bool} {I : Nat -> Nat -> Heap -> Prop} (hv : ∀ i j H, I i j H -> IntsW H v ws A) (hL : LookOk (runQ wk tab slow K d) g b caps A P I) (hrow : ∀ i r H, A[i]? = some r -> I i r.length H -> I (i + 1) 0 H) (hal : A.length < 1000000 /\ A.length < K) (hrl : ∀ r ∈ A, r.length < 1000000 /\ r.length < K) (hI : I 0 0 H) :
  ∃ H' i' j', runQ wk tab slow K (d + 1) 23 [v, .fn g b caps] H = some (.bool (outB P A 0), H') /\ I i' j' H' /\ (outB P A 0 = true -> i' = A.length /\ j' = 0) := by
 rw [each_run]
 have hl : ∀ k, slow.len v k = k (i64 A.length) := fun k => by rw [(hv 0 0 H hI).1.len, (hv 0 0 H hI).2.1]
 obtain ⟨H', i', j', h1, h2⟩ := each_out (runQ wk tab slow K d) K hv hL hrow hal.1 hrl A 0 K H rfl hal.2 (by omega) hI
 refine ⟨H', i', j', ?_, h2⟩
 simp only [f23, hl]
 exact h1
theorem each_pure (K d : Nat) (H : Heap) {v : SV} {A : List (List Int)} {g : Nat} {b caps : List SV} {P : Nat -> Nat -> Bool} (hv : IsInts2 H v A) (hL : ∀ i j r z, A[i]? = some r -> r[j]? = some z -> runQ wk tab slow K d g (b ++ ([i64 i, i64 j, .int .i64 z] ++ caps)) H = some (.bool (P i j), H)) (hal : A.length < 1000000 /\ A.length < K) (hrl : ∀ r ∈ A, r.length < 1000000 /\ r.length < K) :
  runQ wk tab slow K (d + 1) 23 [v, .fn g b caps] H = some (.bool (outB P A 0), H) := by
 obtain ⟨ws, hw⟩ := IntsW.of hv
 obtain ⟨H', i', j', h1, h2, _⟩ := each_ok K d H (I := fun _ _ H' => H' = H) (fun _ _ H' e => by subst e; exact hw) (fun i j r z H' hr hz e => by subst e; exact ⟨_, hL i j r z hr hz, rfl⟩) (fun _ _ _ _ e => e) hal hrl rfl
 rw [h1, h2]
def smallB (z : Int) : Bool := decide (-16384 <= z) && decide (z <= 16384)
theorem small_ok (K d : Nat) (H : Heap) (z : Int) : runQ wk tab slow K (d + 1) 25 [.int .i64 z] H = some (.bool (smallB z), H) := by
 show f25 slow K (runQ wk tab slow K d) (.int .i64 z) H = _
 unfold smallB
 simp only [f25, z_geq, z_guard, z_leq, f25_j1, z_rest_bool]
 by_cases h : -16384 <= z
 ·rw [decide_eq_true h, Bool.true_and]
  rfl
 ·rw [decide_eq_false h, Bool.false_and]
  rfl
theorem squareZ_in (C : CallC) (K : Nat) {g : Nat} {b caps : List SV} {H0 Hi : Heap} {n : Nat} (hn : n < 100000) {E : Nat -> Nat -> Int} (hE : EntryB C g b caps H0 n n E) (h0i : Frame H0 Hi) {lo : Nat} {l : SV} {ws : List SV} (hl : Own lo Hi l ws) (hlo : lo <= Hi.size) (hwl : ws.length < 100000) (hws : ∀ w ∈ ws, isSlice w) {i : Nat} (hi : i < n) (k8 : SV -> SV -> SV -> SV -> SV -> Heap -> Rs) {row : SV} : ∀ (m j fuel : Nat) (H : Heap) (els : List (List SV)), j + m = n -> m < fuel -> Frame Hi H -> OwnS 2 Hi.size H row els -> els.length = n -> (∀ e ∈ els, zCell e) -> (∀ (q : Nat) e, q < j -> els[q]? = some e -> IsInt H (.agg e) (E i q)) ->
  ∃ l' H', slow.loop9 (f44_l3 slow K C k8) fuel (i64 n) (.fn g b caps) l (i64 i) row (i64 n) (i64 i) (i64 n) (i64 j) H = k8 (i64 n) (.fn g b caps) l' (i64 n) (i64 (i + 1)) H' /\ Fr lo Hi H' /\ (∀ r, ¬ inRow l r -> r < Hi.size -> H'.get r = Hi.get r) /\ Own lo H' l' (ws ++ [row]) /\ ZRow Hi.size H' row (E i) n
 | 0, j, fuel, H, els, hjm, hf, hfr, ho, hel, hcell, hdone => by
  obtain ⟨fuel, rfl⟩ : ∃ m, fuel = m + 1 := ⟨fuel - 1, by omega⟩
  have hj : j = n := by omega
  subst hj
  have hz : ZRow Hi.size H row (E i) j := ⟨els, ho, hel, hcell, fun q e he => hdone q e (by have := (List.getElem?_eq_some_iff.1 he).1; omega) he⟩
  obtain ⟨u, H1, hu, hou, hfu, hru, hsz⟩ := z_lay1 (H := H) (lo := H.size) (Nat.le_refl _) (.slice nilSl) (x := row) ho.arr.flat
  have hl1 := (hl.fr hfr).fr hfu
  obtain ⟨l', H2, ha, ho2, hf2, hrw, hin, _⟩ := hl1.append (Nat.le_trans hlo (Nat.le_trans hfr.size hfu.size)) hou.arr (by_ := 24) (roomy_small (by simp; omega))
  refine ⟨l', H2, ?_, ?_, ?_, ho2, ?_⟩
  ·rw [z_loop9]
   have hlt : ¬ j < j := Nat.lt_irrefl j
   simp only [f44_l3, n_lss, decide_eq_false hlt, z_cond, cond_false, hu, ha, w_inc (show i < 1000000 by omega)]
  ·exact ((hfr.mono hlo).trans (hfu.mono (Nat.le_trans hlo hfr.size))).trans hf2
  ·intro r hr hlt
   have hrH : r < H.size := Nat.lt_of_lt_of_le hlt hfr.size
   rw [hrw r hr (Nat.lt_of_lt_of_le hrH hfu.size), hfu.rows r hrH, hfr.rows r hlt]
  ·refine (hz.fr hfu).keep (X := fun r => inRow l r) (fun r rw hr hg c hc => ?_) hrw fun r hr hr' => ?_
   ·have := Own.cells hl1 hr hg
    rw [this] at hc
    exact isSlice_not_int (hws c hc)
   ·have h1 := (OwnS.bd ho hr).1
    have h2 := (Own.bd hl hr').2
    omega
 | m + 1, j, fuel, H, els, hjm, hf, hfr, ho, hel, hcell, hdone => by
  obtain ⟨fuel, rfl⟩ : ∃ m, fuel = m + 1 := ⟨fuel - 1, by omega⟩
  have hlt : j < n := by omega
  obtain ⟨r, H1, h1, f1, hr⟩ := hE i j H hi hlt (Frame.trans h0i hfr)
  obtain ⟨sl, rfl, hsl, hslf⟩ := hr
  have hint : IsInt H1 (.agg [.bool (decide (E i j < 0)), sl]) (E i j) := ⟨sl, rfl, hsl, hslf⟩
  have ho1 := ho.fr f1
  obtain ⟨H2, st, ho2, f2, sz2, hro⟩ := ho1.store (i := j) (by omega) (e := [.bool (decide (E i j < 0)), sl]) rfl .i64
  have hX : ∀ r row', inRow row r -> H1.get r = some row' -> ∀ c ∈ row'.cells, ∀ kd n, c ≠ .int kd n := fun r row' hr hg => by
   rw [OwnS.cells ho1 hr hg]
   exact zCells_flat hcell
  obtain ⟨l', H3, h3, h4⟩ := squareZ_in C K hn hE h0i hl hlo hwl hws hi k8 m (j + 1) fuel H2 (els.set j [.bool (decide (E i j < 0)), sl]) (by omega) (by omega) (Fr.trans (Frame.trans hfr f1) f2) ho2 (by simpa using hel) (fun e he => by
   rcases List.mem_or_eq_of_mem_set he with he | rfl
   ·exact hcell e he
   ·exact hint.cell) (fun q e hq he => by
    by_cases hqj : q = j
    ·subst hqj
     rw [List.getElem?_set_self (by omega)] at he
     cases he
     exact hint.keep hX fun r hr _ => hro r hr
    ·rw [List.getElem?_set_ne (Ne.symm hqj)] at he
     exact ((hdone q e (by omega) he).fr f1).keep hX fun r hr _ => hro r hr)
  refine ⟨l', H3, ?_, h4⟩
  rw [z_loop9]
  simp only [f44_l3, n_lss, decide_eq_true hlt, z_cond, cond_true, z_callv, h1, z_call, st, w_inc (show j < 1000000 by omega)]
  exact h3
theorem squareZ_out (C : CallC) (K : Nat) (hK : 100000 < K) {g : Nat} {b caps : List SV} {H0 : Heap} {n : Nat} (hn : n < 100000) {E : Nat -> Nat -> Int} (hE : EntryB C g b caps H0 n n E) : ∀ (m i fuel : Nat) (H : Heap) (l : SV) (ws : List SV), i + m = n -> m < fuel -> Frame H0 H -> Work H0.size H l ws E i n ->
  ∃ l' ws' H', slow.loop5 (f44_l1 slow K C) fuel (i64 n) (.fn g b caps) l (i64 n) (i64 i) H = some (l', H') /\ Frame H0 H' /\ Work H0.size H' l' ws' E n n
 | 0, i, fuel, H, l, ws, him, hf, hfr, hw => by
  obtain ⟨fuel, rfl⟩ : ∃ m, fuel = m + 1 := ⟨fuel - 1, by omega⟩
  have hi : i = n := by omega
  subst hi
  refine ⟨l, ws, H, ?_, hfr, hw⟩
  rw [z_loop5]
  have hlt : ¬ i < i := Nat.lt_irrefl i
  simp only [f44_l1, n_lss, decide_eq_false hlt, z_cond, cond_false, z_rest hw.out.arr.good]
 | m + 1, i, fuel, H, l, ws, him, hf, hfr, hw => by
  obtain ⟨fuel, rfl⟩ : ∃ m, fuel = m + 1 := ⟨fuel - 1, by omega⟩
  have hlt : i < n := by omega
  have hwl := hw.len
  have hws := hw.slices
  obtain ⟨row, H1, h1, ho1, f1, hin1, sz1⟩ := z_makeS (H := H) (lo := H.size) (Nat.le_refl _) 2 32 (by decide) [.bool false, .slice nilSl] rfl n (by omega) (roomy_small (by omega)) .i64 .i64
  obtain ⟨l', H2, h2, f2, hro2, ho2, hz2⟩ := squareZ_in C K hn hE hfr (Hi := H) hw.out hfr.size (by omega) hws hlt (slow.loop5 (f44_l1 slow K C) fuel) (row := row) n 0 K H1 (List.replicate n [.bool false, .slice nilSl]) (by omega) (by omega) f1 ho1 (by simp) (fun e he => by rw [List.eq_of_mem_replicate he]; exact ⟨_, _, rfl⟩) (fun q e hq => by omega)
  have hX : ∀ r row', inRow l r -> H.get r = some row' -> ∀ c ∈ row'.cells, ∀ kd n, c ≠ .int kd n := fun r row' hr hg c hc => by
   rw [Own.cells hw.out hr hg] at hc
   exact isSlice_not_int (hws c hc)
  have cases_q : ∀ (q : Nat) w, (ws ++ [row])[q]? = some w -> (q < i /\ ws[q]? = some w) \/ (q = i /\ w = row) := fun q w hq => by
   by_cases hqw : q < ws.length
   ·rw [List.getElem?_append_left hqw] at hq
    exact .inl ⟨by omega, hq⟩
   ·have hq2 : q = ws.length := by have := (List.getElem?_eq_some_iff.1 hq).1; simp at this; omega
    subst hq2
    simp at hq
    exact .inr ⟨by omega, hq.symm⟩
  obtain ⟨els2, os2, l2, c2, i2⟩ := hz2
  have hW : Work H0.size H2 l' (ws ++ [row]) E (i + 1) n := by
   refine ⟨ho2, by simp [hwl], fun q w hq => ?_, fun q q' w w' r hq hq' hr hr' => ?_⟩
   ·rcases cases_q q w hq with ⟨a, hq⟩ | ⟨rfl, rfl⟩
    ·obtain ⟨ei, oi, _⟩ := hw.row q w hq
     exact (hw.row q w hq).keep hX hro2 fun r hr hl => ownS_apart hw.out oi hl hr
    ·exact ⟨els2, OwnS.mono2 os2 hfr.size, l2, c2, i2⟩
   ·rcases cases_q q w hq with ⟨a, b1⟩ | ⟨a, rfl⟩ <;> rcases cases_q q' w' hq' with ⟨a', b2⟩ | ⟨a', rfl⟩
    ·exact hw.dis q q' w w' r b1 b2 hr hr'
    ·obtain ⟨ei, oi, _⟩ := hw.row q w b1
     have h3 := (OwnS.bd oi hr).2
     have h4 := (OwnS.bd os2 hr').1
     omega
    ·obtain ⟨ei, oi, _⟩ := hw.row q' w' b2
     have h3 := (OwnS.bd oi hr').2
     have h4 := (OwnS.bd os2 hr).1
     omega
    ·omega
  obtain ⟨l3, ws3, H3, h3, g3⟩ := squareZ_out C K hK hn hE m (i + 1) fuel H2 l' (ws ++ [row]) (by omega) (by omega) (Fr.trans hfr f2) hW
  refine ⟨l3, ws3, H3, ?_, g3⟩
  rw [z_loop5]
  simp only [f44_l1, n_lss, decide_eq_true hlt, z_cond, cond_true, h1]
  rw [ho1.arr.len, List.length_replicate, show (SV.int .i64 0) = i64 0 from rfl, h2]
  exact h3
theorem squareZ_run (K d : Nat) (H : Heap) (v f : SV) : runQ wk tab slow K (d + 1) 44 [v, f] H = f44 slow K (runQ wk tab slow K d) v f H := Eq.trans rfl rfl
theorem squareZ_ok (K : Nat) (hK : 100000 < K) (d : Nat) {g : Nat} {b caps : List SV} {H0 : Heap} {n : Nat} (hn : n < 100000) {E : Nat -> Nat -> Int} (hE : EntryB (runQ wk tab slow K d) g b caps H0 n n E) :
  ∃ l ws H', runQ wk tab slow K (d + 1) 44 [i64 n, .fn g b caps] H0 = some (l, H') /\ Frame H0 H' /\ Work H0.size H' l ws E n n := by
 rw [squareZ_run]
 exact squareZ_out _ K hK hn hE n 0 K H0 (.slice nilSl) [] (by omega) (by omega) (Fr.refl _ _) ⟨Own.nil _ _, rfl, fun i w hw => by simp at hw, fun i j w w' r hw => by simp at hw⟩
def partG (m : Mx) (last : Int) (r i k : Nat) : Mx := fun x y => if r < x /\ x < i /\ r < y then elimE m last r r x y else if x = i /\ r < y /\ y < k then elimE m last r r x y else m x y
theorem pos_in (K : Nat) (hK : 200000 < K) (d : Nat) {H0 : Heap} {v lb ls : SV} {ws : List SV} {m : Mx} {last : Int} {n r i : Nat} (hn : n <= 16) (hb : BOk n n m last r r) (hr : r < i) (hi : i < n) (k36 : SV -> SV -> SV -> SV -> SV -> SV -> SV -> Heap -> Rs) : ∀ (q k fuel : Nat) (H : Heap), k + q = n -> q < fuel -> r < k -> Frame H0 H -> Work H0.size H v ws (partG m last r i k) n n -> IsInt H (.agg [lb, ls]) last ->
  ∃ H', slow.loop8 (f27_l6 slow K (runQ wk tab slow K (d + 7)) k36) fuel (i64 n) v (.box [lb, ls]) (i64 r) (i64 i) (i64 k) (i64 n) (i64 r) H = k36 (i64 n) v (.box [lb, ls]) (i64 r) (i64 (i + 1)) (i64 n) (i64 r) H' /\ Frame H0 H' /\ Work H0.size H' v ws (partG m last r (i + 1) (r + 1)) n n /\ IsInt H' (.agg [lb, ls]) last
 | 0, k, fuel, H, hkn, hf, hjk, hfr, hw, hl => by
  obtain ⟨fuel, rfl⟩ : ∃ q, fuel = q + 1 := ⟨fuel - 1, by omega⟩
  have e : k = n := by omega
  subst e
  have hlt : ¬ k < k := Nat.lt_irrefl k
  refine ⟨H, ?_, hfr, hw.congr fun x y hx hy => ?_, hl⟩
  ·rw [z_loop8]
   simp only [f27_l6, n_lss, decide_eq_false hlt, z_cond, cond_false, w_inc (show i < 1000000 by omega)]
  ·unfold partG
   by_cases a : r < x /\ x < i /\ r < y
   ·rw [if_pos a, if_pos (show r < x /\ x < i + 1 /\ r < y by omega)]
   ·rw [if_neg a]
    by_cases b : x = i /\ r < y /\ y < k
    ·rw [if_pos b, if_pos (show r < x /\ x < i + 1 /\ r < y by omega)]
    ·rw [if_neg b, if_neg (show ¬ (r < x /\ x < i + 1 /\ r < y) by omega), if_neg (show ¬ (x = i + 1 /\ r < y /\ y < r + 1) by omega)]
 | q + 1, k, fuel, H, hkn, hf, hjk, hfr, hw, hl => by
  obtain ⟨fuel, rfl⟩ : ∃ q, fuel = q + 1 := ⟨fuel - 1, by omega⟩
  have hk : k < n := by omega
  have hrr : r < n := by omega
  obtain ⟨wi, hwi⟩ : ∃ w, ws[i]? = some w := ⟨_, List.getElem?_eq_getElem (by rw [hw.len]; exact hi)⟩
  obtain ⟨wr, hwr⟩ : ∃ w, ws[r]? = some w := ⟨_, List.getElem?_eq_getElem (by rw [hw.len]; exact hrr)⟩
  obtain ⟨pi, pi1, pi2, pi3⟩ := Own.place hw.out hwi
  obtain ⟨pr, pr1, pr2, pr3⟩ := Own.place hw.out hwr
  have erj : partG m last r i k r r = m r r := by unfold partG; rw [if_neg (by omega), if_neg (by omega)]
  have erk : partG m last r i k r k = m r k := by unfold partG; rw [if_neg (by omega), if_neg (by omega)]
  have eij : partG m last r i k i r = m i r := by unfold partG; rw [if_neg (by omega), if_neg (by omega)]
  have eik : partG m last r i k i k = m i k := by unfold partG; rw [if_neg (by omega), if_neg (by omega)]
  have brj := hb.ent r r (Nat.le_refl _) hrr (Nat.le_refl _) hrr
  have brk := hb.ent r k (Nat.le_refl _) hrr (by omega) hk
  have bij := hb.ent i r (by omega) hi (Nat.le_refl _) hrr
  have bik := hb.ent i k (by omega) hi (by omega) hk
  obtain ⟨a1, a2, a3, a4⟩ := (hw.row r wr hwr).load hrr
  obtain ⟨b1, b2, b3, b4⟩ := (hw.row i wi hwi).load hk
  rw [erj] at a4
  rw [eik] at b4
  obtain ⟨x, H1, h1, g1, n1⟩ := zmul_ok K hK (d + 2) H a4 b4 brj bik
  rw [show d + 2 + 5 = d + 7 from rfl] at h1
  rw [fitZ_yes (hb.p1 i k hr hi hjk hk)] at n1
  have hw1 := hw.fr g1
  obtain ⟨c1, c2, c3, c4⟩ := (hw1.row i wi hwi).load hrr
  obtain ⟨d1, d2, d3, d4⟩ := (hw1.row r wr hwr).load hk
  rw [eij] at c4
  rw [erk] at d4
  obtain ⟨y, H2, h2, g2, n2⟩ := zmul_ok K hK (d + 2) H1 c4 d4 bij brk
  rw [show d + 2 + 5 = d + 7 from rfl] at h2
  rw [fitZ_yes (hb.p2 i k hr hi hjk hk)] at n2
  obtain ⟨z, H3, h3, g3, n3⟩ := zsub_ok K (by omega) (d + 1) H2 (n1.fr g2) n2 (hb.p1 i k hr hi hjk hk) (hb.p2 i k hr hi hjk hk)
  rw [show d + 1 + 6 = d + 7 from rfl] at h3
  rw [fitZ_yes (hb.df i k hr hi hjk hk)] at n3
  have hl3 := ((hl.fr g1).fr g2).fr g3
  obtain ⟨q', H4, h4, g4, n4⟩ := zexact_ok K hK d H3 n3 hl3 hb.nz (hb.dv i k hr hi hjk hk) (hb.df i k hr hi hjk hk) hb.sl
  have hw3 := (hw1.fr g2).fr g3
  have hw4 := hw3.fr g4
  have n4' := n4
  obtain ⟨q2, rfl, _, _⟩ := n4
  obtain ⟨H5, st, W, f5, _, hint⟩ := hw4.store hwi hk n4'
  have hW : Work H0.size H5 v ws (partG m last r i (k + 1)) n n := W.congr fun x' y' hx hy => by
   unfold updM partG
   by_cases a : x' = i /\ y' = k
   ·obtain ⟨rfl, rfl⟩ := a
    rw [if_pos ⟨rfl, rfl⟩, if_neg (show ¬ (r < x' /\ x' < x' /\ r < y') by omega), if_pos (show x' = x' /\ r < y' /\ y' < y' + 1 by omega)]
    rfl
   ·rw [if_neg a]
    by_cases b : r < x' /\ x' < i /\ r < y'
    ·rw [if_pos b, if_pos b]
    ·rw [if_neg b, if_neg b]
     by_cases c : x' = i /\ r < y' /\ y' < k
     ·rw [if_pos c, if_pos (show x' = i /\ r < y' /\ y' < k + 1 by omega)]
     ·rw [if_neg c, if_neg (show ¬ (x' = i /\ r < y' /\ y' < k + 1) by omega)]
  obtain ⟨H6, h6, g6⟩ := pos_in K hK d hn hb hr hi k36 q (k + 1) fuel H5 (by omega) (by omega) (by omega) (Fr.trans (Frame.trans hfr (Frame.trans g1 (Frame.trans g2 (Frame.trans g3 g4)))) f5) hW (hint _ _ (hl3.fr g4))
  obtain ⟨x2, rfl, _, _⟩ := n1
  obtain ⟨y2, rfl, _, _⟩ := n2
  obtain ⟨z2, rfl, _, _⟩ := n3
  refine ⟨H6, ?_, g6⟩
  rw [z_loop8]
  simp only [f27_l6, n_lss, decide_eq_true hk, z_cond, cond_true, pr1, pi1, pr2 H hw.out, pi2 H hw.out, a3, b3, h1, z_call, z_ext0, z_ext1, z_bst2, pr2 H1 hw1.out, pi2 H1 hw1.out, c3, d3, h2, z_lload2, h3, pi2 H3 hw3.out, h4, st, pi3 H3 H4 _ hw3.out g4, w_inc (show k < 1000000 by omega)]
  exact h6
theorem pos_mid (K : Nat) (hK : 200000 < K) (d : Nat) {H0 : Heap} {v lb ls : SV} {ws : List SV} {m : Mx} {last : Int} {n r : Nat} (hn : n <= 16) (hb : BOk n n m last r r) (hr : r < n) (k17 : SV -> SV -> SV -> SV -> SV -> Heap -> Rs) : ∀ (q i fuel : Nat) (H : Heap), i + q = n -> q < fuel -> r < i -> Frame H0 H -> Work H0.size H v ws (partG m last r i (r + 1)) n n -> IsInt H (.agg [lb, ls]) last ->
  ∃ H' lb' ls', slow.loop7 (f27_l4 slow K (runQ wk tab slow K (d + 7)) k17) fuel (i64 n) v (.box [lb, ls]) (i64 r) (i64 i) (i64 n) (i64 r) H = k17 (i64 n) v (.box [lb', ls']) (i64 n) (i64 (r + 1)) H' /\ Frame H0 H' /\ Work H0.size H' v ws (partG m last r n (r + 1)) n n /\ IsInt H' (.agg [lb', ls']) (m r r)
 | 0, i, fuel, H, hin, hf, hri, hfr, hw, hl => by
  obtain ⟨fuel, rfl⟩ : ∃ q, fuel = q + 1 := ⟨fuel - 1, by omega⟩
  have e : i = n := by omega
  subst e
  have hlt : ¬ i < i := Nat.lt_irrefl i
  obtain ⟨w, x, y, hwr, l1, l2, l3⟩ := hw.load hr hr
  have em : partG m last r i (r + 1) r r = m r r := by unfold partG; rw [if_neg (by omega), if_neg (by omega)]
  rw [em] at l3
  refine ⟨H, x, y, ?_, hfr, hw, l3⟩
  rw [z_loop7]
  simp only [f27_l4, n_lss, decide_eq_false hlt, z_cond, cond_false, l1, l2, z_bst2, w_inc (show r < 1000000 by omega)]
 | q + 1, i, fuel, H, hin, hf, hri, hfr, hw, hl => by
  obtain ⟨fuel, rfl⟩ : ∃ q, fuel = q + 1 := ⟨fuel - 1, by omega⟩
  have hi : i < n := by omega
  obtain ⟨H1, h1, g1, w1, i1⟩ := pos_in K hK d hn hb hri hi (slow.loop7 (f27_l4 slow K (runQ wk tab slow K (d + 7)) k17) fuel) (n - (r + 1)) (r + 1) K H (by omega) (by omega) (by omega) hfr hw hl
  obtain ⟨H2, lb', ls', h2, g2⟩ := pos_mid K hK d hn hb hr k17 q (i + 1) fuel H1 (by omega) (by omega) (by omega) g1 w1 i1
  refine ⟨H2, lb', ls', ?_, g2⟩
  rw [z_loop7]
  simp only [f27_l4, n_lss, decide_eq_true hi, z_cond, cond_true, w_inc (show r < 1000000 by omega)]
  exact h1.trans h2
def posN (A : Mx) : Nat -> Nat -> Bool
 | 0, _ => true
 | m + 1, r => decide (0 < det (r + 1) A) && posN A m (r + 1)
theorem posN_iff {A : Mx} : ∀ {m r : Nat}, posN A m r = true ↔ ∀ k, r < k -> k <= r + m -> 0 < det k A
 | 0, r => ⟨fun _ k h1 h2 => by omega, fun _ => rfl⟩
 | m + 1, r => by
  unfold posN
  rw [Bool.and_eq_true, posN_iff, decide_eq_true_iff]
  constructor
  ·intro ⟨h1, h2⟩ k h3 h4
   by_cases e : k = r + 1
   ·rw [e]; exact h1
   ·exact h2 k (by omega) (by omega)
  ·intro h
   exact ⟨h (r + 1) (by omega) (by omega), fun k h1 h2 => h k (by omega) (by omega)⟩
theorem posN_corner {A : Mx} {n : Nat} : posN A n 0 = true ↔ Corner n A := by
 rw [posN_iff]
 exact ⟨fun h k h1 h2 => h k (by omega) (by omega), fun h k h1 h2 => h k (by omega) (by omega)⟩
theorem BInv.congr' {rows cols : Nat} {A : Mx} {c : Nat -> Nat} {j r : Nat} {m m' : Mx} {last : Int} {sg : Bool} (h : BInv rows cols A c j ⟨r, m, last, sg⟩) (e : ∀ i k, r <= i -> i < rows -> j <= k -> k < cols -> m' i k = m i k) : BInv rows cols A c j ⟨r, m', last, sg⟩ :=
 ⟨h.last, h.nz, fun i k a b d f => (e i k a b d f).trans (h.ent i k a b d f), h.rj, h.rr, h.cj⟩
theorem sign_le {z : Int} : decide (signZ z <= 0) = !decide (0 < z) := by
 unfold signZ
 by_cases h : z = 0
 ·rw [if_pos h, h]; rfl
 ·rw [if_neg h]
  by_cases h2 : z < 0
  ·rw [if_pos h2, decide_eq_false (show ¬ 0 < z by omega)]; rfl
  ·rw [if_neg h2, decide_eq_true (show 0 < z by omega)]; rfl
theorem pos_loop (K : Nat) (hK : 200000 < K) (d : Nat) {H0 : Heap} {v : SV} {n N X cc : Nat} {A : Mx} (hn : n <= 16) (hbd : Bd n n A N X cc) : ∀ (q r fuel : Nat) (H : Heap) (ws : List SV) (lb ls : SV) (m : Mx) (last : Int), r + q = n -> q < fuel -> Frame H0 H -> Work H0.size H v ws m n n -> IsInt H (.agg [lb, ls]) last -> BInv n n A (fun y => y) r ⟨r, m, last, false⟩ ->
  ∃ H', slow.loop5 (f27_l1 slow K (runQ wk tab slow K (d + 7))) fuel (i64 n) v (.box [lb, ls]) (i64 n) (i64 r) H = some (.bool (posN A q r), H') /\ Frame H0 H'
 | 0, r, fuel, H, ws, lb, ls, m, last, hrq, hf, hfr, hw, hl, hI => by
  obtain ⟨fuel, rfl⟩ : ∃ q, fuel = q + 1 := ⟨fuel - 1, by omega⟩
  have hlt : ¬ r < n := by omega
  refine ⟨H, ?_, hfr⟩
  rw [z_loop5]
  simp only [f27_l1, n_lss, decide_eq_false hlt, z_cond, cond_false]
  rfl
 | q + 1, r, fuel, H, ws, lb, ls, m, last, hrq, hf, hfr, hw, hl, hI => by
  obtain ⟨fuel, rfl⟩ : ∃ q, fuel = q + 1 := ⟨fuel - 1, by omega⟩
  have hr : r < n := by omega
  have hok : BOk n n m last r r := hI.ok hbd hr hr
  obtain ⟨w, x, y, hwr, l1, l2, l3⟩ := hw.load hr hr
  have hs := zsign_ok K (d + 4) H l3 (hok.ent r r (Nat.le_refl _) hr (Nat.le_refl _) hr)
  rw [show d + 4 + 3 = d + 7 from rfl] at hs
  have em : m r r = det (r + 1) A := by
   refine (hI.ent r r (Nat.le_refl _) hr (Nat.le_refl _) hr).trans ?_
   refine det_congr fun i k hi hk => ?_
   show A (if i < r then i else r) (if k < r then k else r) = A i k
   have hi' : i < r + 1 := hi
   have hk' : k < r + 1 := hk
   have e1 : (if i < r then i else r) = i := by split <;> omega
   have e2 : (if k < r then k else r) = k := by split <;> omega
   rw [e1, e2]
  have hle : ∀ k, slow.leq (.int .i64 (signZ (m r r))) (.int .i64 0) k = k (.bool (!decide (0 < det (r + 1) A))) := fun k => by rw [z_leq, sign_le, em]
  rw [z_loop5]
  simp only [f27_l1, n_lss, decide_eq_true hr, z_cond, cond_true, l1, l2, hs, z_call, hle]
  by_cases hp : 0 < det (r + 1) A
  ·have ep : posN A (q + 1) r = posN A q (r + 1) := by
    show (decide (0 < det (r + 1) A) && posN A q (r + 1)) = _
    rw [decide_eq_true hp, Bool.true_and]
   rw [ep, decide_eq_true hp]
   obtain ⟨H1, lb', ls', h1, g1, w1, n1⟩ := pos_mid K hK d hn hok hr (slow.loop5 (f27_l1 slow K (runQ wk tab slow K (d + 7))) fuel) (n - (r + 1)) (r + 1) K H (by omega) (by omega) (by omega) hfr (hw.congr fun x y hx hy => by unfold partG; rw [if_neg (by omega), if_neg (by omega)]) hl
   have hI' := hI.elim hr hr (by rw [show (BSt.m ⟨r, m, last, false⟩) (BSt.r ⟨r, m, last, false⟩) r = m r r from rfl, em]; omega) false
   have ec : (fun y => if y = (BSt.r ⟨r, m, last, false⟩) then r else y) = fun y => y := by
    funext y
    show (if y = r then r else y) = y
    split <;> omega
   rw [ec] at hI'
   have hI2 : BInv n n A (fun y => y) (r + 1) ⟨r + 1, partG m last r n (r + 1), m r r, false⟩ := BInv.congr' hI' fun i k a b c e => by
    unfold partG
    rw [if_pos (by omega)]
    show elimE m last r r i k = elimM m last r r i k
    unfold elimM
    rw [if_pos (show r < i by omega), if_neg (show ¬ k = r by omega), if_pos (show r < k by omega)]
   obtain ⟨H2, h2, g2⟩ := pos_loop K hK d hn hbd q (r + 1) fuel H1 ws lb' ls' _ _ (by omega) (by omega) g1 w1 n1 hI2
   refine ⟨H2, ?_, g2⟩
   simp only [Bool.not_true, cond_false, w_inc (show r < 1000000 by omega)]
   exact h1.trans h2
  ·have ep : posN A (q + 1) r = false := by
    show (decide (0 < det (r + 1) A) && posN A q (r + 1)) = _
    rw [decide_eq_false hp, Bool.false_and]
   rw [ep, decide_eq_false hp]
   exact ⟨H, rfl, hfr⟩
theorem ints_entry {H : Heap} {v : SV} {A : List (List Int)} (hv : IsInts2 H v A) {i j : Nat} {r : List Int} {z : Int} (hr : A[i]? = some r) (hz : r[j]? = some z) : ∃ w, (∀ k, slow.idx 1 v (i64 i) (fun p => slow.load 1 false p H k) = k w) /\ ∀ k, slow.idx 1 w (i64 j) (fun p => slow.load 1 false p H k) = k (.int .i64 z) := by
 obtain ⟨ws, h1, h2, h3⟩ := IntsW.of hv
 obtain ⟨w, hw⟩ : ∃ w, ws[i]? = some w := ⟨_, List.getElem?_eq_getElem (by rw [h2]; exact (List.getElem?_eq_some_iff.1 hr).1)⟩
 exact ⟨w, fun k => h1.load hw .i64 k, fun k => (h3 i w r hw hr).load (by simp [intsL, hz]) .i64 k⟩
theorem ints_len {H : Heap} {v : SV} {A : List (List Int)} (hv : IsInts2 H v A) (k : K1) : slow.len v k = k (i64 A.length) := by
 have := IsRowsC.len hv k
 simpa using this
structure Sq (A : List (List Int)) : Prop where
 n0 : 1 <= A.length
 n8 : A.length <= 8
 sq : ∀ r ∈ A, r.length = A.length
 sm : ∀ r ∈ A, ∀ z ∈ r, -16384 <= z /\ z <= 16384
theorem Sq.at {A : List (List Int)} (h : Sq A) {i j : Nat} (hi : i < A.length) (hj : j < A.length) : ∃ r, A[i]? = some r /\ r[j]? = some (ent A i j) /\ -16384 <= ent A i j /\ ent A i j <= 16384 := by
 have h1 : A[i]? = some A[i] := List.getElem?_eq_getElem hi
 have hm := List.getElem_mem hi
 have hl := h.sq _ hm
 have h2 : (A[i])[j]? = some (A[i])[j] := List.getElem?_eq_getElem (by omega)
 refine ⟨_, h1, ?_⟩
 rw [ent_get h1 h2]
 exact ⟨h2, h.sm _ hm _ (List.getElem_mem _)⟩
theorem Sq.bd {A : List (List Int)} (h : Sq A) : Bd A.length A.length (ent A) A.length (A.length * 16384) 16384 := by
 have h8 := h.n8
 refine ⟨(Nat.min_self _).symm, rfl, by decide, ?_, fun i k hi hk => ?_⟩
 ·have e1 : A.length * 16384 <= 2 ^ 17 := by omega
  refine Nat.lt_of_le_of_lt (Nat.pow_le_pow_left e1 _) ?_
  rw [<- Nat.pow_mul]
  exact Nat.lt_of_lt_of_le (Nat.pow_lt_pow_right (show 1 < 2 by decide) (Nat.lt_succ_self (17 * (2 * A.length)))) (pow_mono2 _ 4096 (by omega))
 ·obtain ⟨r, h1, h2, h3, h4⟩ := h.at hi hk
  omega
theorem pos_run (K d : Nat) (H : Heap) (v : SV) : runQ wk tab slow K (d + 8) 27 [v] H = f27 slow K (runQ wk tab slow K (d + 7)) v H := Eq.trans rfl rfl
theorem pos_ok (K : Nat) (hK : 200000 < K) (d : Nat) (H : Heap) {v : SV} {A : List (List Int)} (hv : IsInts2 H v A) (hs : Sq A) :
  ∃ H', runQ wk tab slow K (d + 8) 27 [v] H = some (.bool (posN (ent A) A.length 0), H') /\ Frame H H' := by
 have h8 := hs.n8
 rw [pos_run]
 obtain ⟨p, H1, b1, f1, hp, gp⟩ := z_boxH (IsRowsC.flat hv) H
 have hv1 : IsInts2 H1 v A := IsRowsC.fr hv f1
 obtain ⟨l, ws, H2, h2, f2, w2⟩ := squareZ_ok K (by omega) (d + 6) (g := 45) (b := []) (caps := [p]) (H0 := H1) (n := A.length) (by omega) (E := ent A) (fun i j H' hi hj hf => by
  obtain ⟨r, e1, e2, e3, e4⟩ := hs.at hi hj
  obtain ⟨w, l1, l2⟩ := ints_entry (IsRowsC.fr hv1 hf) e1 e2
  obtain ⟨o, H3, h3, f3, n3⟩ := zof_ok K (by omega) (d + 2) H' (z := ent A i j) (by omega) (by omega)
  rw [show d + 2 + 3 = d + 5 from rfl] at h3
  have n3' := n3
  obtain ⟨o2, rfl, _, _⟩ := n3
  refine ⟨_, H3, ?_, f3, n3'⟩
  show f45 slow K (runQ wk tab slow K (d + 5)) (i64 i) (i64 j) p H' = _
  simp only [f45, (hp.fr hf).load, l1, l2, h3, z_call, z_bst2, z_resc2])
 rw [show d + 6 + 1 = d + 7 from rfl] at h2
 obtain ⟨o, H3, h3, f3, n3⟩ := zof_ok K (by omega) (d + 4) H2 (z := 1) (by decide) (by decide)
 rw [show d + 4 + 3 = d + 7 from rfl] at h3
 have n3' := n3
 obtain ⟨o2, rfl, _, _⟩ := n3
 obtain ⟨H4, h4, g4⟩ := pos_loop K hK d (H0 := H1) (by omega) hs.bd A.length 0 K H3 ws _ _ (ent A) 1 (by omega) (by omega) (Frame.trans f2 f3) (w2.fr f3) n3' (by
  have := BInv.start A.length A.length (ent A)
  exact ⟨rfl, this.nz, fun i k a b c e => this.ent i k a b c e, Nat.le_refl _, Nat.zero_le _, fun y hy => absurd hy (Nat.not_lt_zero y)⟩)
 refine ⟨H4, ?_, Frame.trans f1 g4⟩
 simp only [f27, b1, hp.load, ints_len hv1, z_mkfn0 _ gp, h2, z_call, h3, z_bst2]
 exact h4
end Go.Sh.Of
namespace Go.Sh.Of
open Go
def sqB (A : List (List Int)) : Bool := A.all fun r => r.length == A.length
def chkE (A : List (List Int)) : Int :=
 if A.length < 1 then 5 else if 8 < A.length then 5 else if sqB A then
  if outB (fun i j => smallB (ent A i j)) A 0 then
   if outB (fun i j => ent A i j == ent A j i) A 0 then if posN (ent A) A.length 0 then 0 else 6
   else 6
  else 3
 else 5
theorem ent_of {A : List (List Int)} {i j : Nat} {r : List Int} {z : Int} (hr : A[i]? = some r) (hz : r[j]? = some z) : ent A i j = z := ent_get hr hz
theorem sq_rows {A : List (List Int)} (h : sqB A = true) : ∀ r ∈ A, r.length = A.length := fun r hr => by simpa using List.all_eq_true.1 h r hr
theorem sq_small {A : List (List Int)} (h1 : ¬ A.length < 1) (h2 : ¬ 8 < A.length) (h3 : sqB A = true) (h4 : outB (fun i j => smallB (ent A i j)) A 0 = true) : Sq A := by
 refine ⟨by omega, by omega, sq_rows h3, fun r hr z hz => ?_⟩
 obtain ⟨i, hi⟩ := List.getElem?_of_mem hr
 obtain ⟨j, hj⟩ := List.getElem?_of_mem hz
 have h5 := outB_iff.1 h4 i r j hi (List.getElem?_eq_some_iff.1 hj).1
 rw [Nat.zero_add, ent_of hi hj] at h5
 unfold smallB at h5
 simp only [Bool.and_eq_true, decide_eq_true_eq] at h5
 exact h5
structure Form (A : List (List Int)) : Prop where
 sq : Sq A
 sym : Sym A.length (ent A)
 cor : Corner A.length (ent A)
theorem symB_iff {A : List (List Int)} (h : ∀ r ∈ A, r.length = A.length) : outB (fun i j => ent A i j == ent A j i) A 0 = true ↔ Sym A.length (ent A) := by
 rw [outB_iff]
 constructor
 ·intro h1 i j hi hj
  have hm := List.getElem_mem hi
  have := h1 i _ j (List.getElem?_eq_getElem hi) (by rw [h _ hm]; exact hj)
  simpa using this
 ·intro h1 x r k hx hk
  have hl := (List.getElem?_eq_some_iff.1 hx).1
  rw [Nat.zero_add, beq_iff_eq]
  exact h1 x k hl (by rw [h r (List.mem_of_getElem? hx)] at hk; exact hk)
theorem chk_form {A : List (List Int)} : chkE A = 0 ↔ Form A := by
 unfold chkE
 constructor
 ·intro h
  by_cases h1 : A.length < 1
  ·rw [if_pos h1] at h; cases h
  ·rw [if_neg h1] at h
   by_cases h2 : 8 < A.length
   ·rw [if_pos h2] at h; cases h
   ·rw [if_neg h2] at h
    by_cases h3 : sqB A = true
    ·rw [if_pos h3] at h
     by_cases h4 : outB (fun i j => smallB (ent A i j)) A 0 = true
     ·rw [if_pos h4] at h
      by_cases h5 : outB (fun i j => ent A i j == ent A j i) A 0 = true
      ·rw [if_pos h5] at h
       by_cases h6 : posN (ent A) A.length 0 = true
       ·exact ⟨sq_small h1 h2 h3 h4, (symB_iff (sq_rows h3)).1 h5, posN_corner.1 h6⟩
       ·rw [if_neg h6] at h; cases h
      ·rw [if_neg h5] at h; cases h
     ·rw [if_neg h4] at h; cases h
    ·rw [if_neg h3] at h; cases h
 ·intro ⟨hs, hy, hc⟩
  have h1 := hs.n0
  have h2 := hs.n8
  have h3 : sqB A = true := List.all_eq_true.2 fun r hr => by simpa using hs.sq r hr
  have h4 : outB (fun i j => smallB (ent A i j)) A 0 = true := outB_iff.2 fun x r k hx hk => by
   obtain ⟨z, hz⟩ : ∃ z, r[k]? = some z := ⟨_, List.getElem?_eq_getElem hk⟩
   rw [Nat.zero_add, ent_of hx hz]
   have := hs.sm r (List.mem_of_getElem? hx) z (List.mem_of_getElem? hz)
   unfold smallB
   simp only [Bool.and_eq_true, decide_eq_true_eq]
   exact this
  rw [if_neg (by omega), if_neg (by omega), if_pos h3, if_pos h4, if_pos ((symB_iff hs.sq).2 hy), if_pos (posN_corner.2 hc)]
theorem chk_run (K d : Nat) (H : Heap) (v : SV) : runQ wk tab slow K (d + 9) 8 [v] H = f8 slow K (runQ wk tab slow K (d + 8)) v H := Eq.trans rfl rfl
theorem chk_loop (K : Nat) (hK : 200000 < K) (d : Nat) {H : Heap} {p v : SV} {A : List (List Int)} (hp : Holds H p v) (gp : p.good = true) (hv : IsInts2 H v A) (h1 : ¬ A.length < 1) (h2 : ¬ 8 < A.length) : ∀ (rest : List (List Int)) (i fuel : Nat), A.drop i = rest -> rest.length < fuel -> (∀ q r, q < i -> A[q]? = some r -> r.length = A.length) ->
  ∃ H', slow.loop4 (f8_l3 slow K (runQ wk tab slow K (d + 8))) fuel p (i64 A.length) (i64 A.length) (i64 i) H = some (.int .i64 (chkE A), H') /\ Frame H H'
 | [], i, fuel, hd, hf, hq => by
  obtain ⟨fuel, rfl⟩ : ∃ q, fuel = q + 1 := ⟨fuel - 1, by omega⟩
  have hlt : ¬ i < A.length := by have := List.drop_eq_nil_iff.1 hd; omega
  have h3 : sqB A = true := List.all_eq_true.2 fun r hr => by
   obtain ⟨q, hq'⟩ := List.getElem?_of_mem hr
   have := (List.getElem?_eq_some_iff.1 hq').1
   simpa using hq q r (by omega) hq'
  have hsq := sq_rows h3
  have hal : A.length < 1000000 /\ A.length < K := by omega
  have hrl : ∀ r ∈ A, r.length < 1000000 /\ r.length < K := fun r hr => by have := hsq r hr; omega
  have e1 : runQ wk tab slow K (d + 8) 23 [v, .fn 24 [] []] H = some (.bool (outB (fun i j => smallB (ent A i j)) A 0), H) := each_pure K (d + 7) H hv (fun i j r z hr hz => by
   show f24 slow K (runQ wk tab slow K (d + 6)) (i64 i) (i64 j) (.int .i64 z) H = _
   have := small_ok K (d + 5) H z
   simp only [f24, this, z_call, z_rest_bool, ent_of hr hz]) hal hrl
  rw [z_loop4]
  simp only [f8_l3, n_lss, decide_eq_false hlt, z_cond, cond_false, hp.load, e1, z_call, z_not]
  cases b1 : outB (fun i j => smallB (ent A i j)) A 0 with
  | false =>
   refine ⟨H, ?_, Fr.refl _ _⟩
   have e : chkE A = 3 := by unfold chkE; rw [if_neg h1, if_neg h2, if_pos h3, b1]; rfl
   rw [e]
   rfl
  | true =>
   have hS := sq_small h1 h2 h3 b1
   have e2 : runQ wk tab slow K (d + 8) 23 [v, .fn 26 [] [p]] H = some (.bool (outB (fun i j => ent A i j == ent A j i) A 0), H) := each_pure K (d + 7) H hv (fun i j r z hr hz => by
    have hi := (List.getElem?_eq_some_iff.1 hr).1
    have hj := (List.getElem?_eq_some_iff.1 hz).1
    rw [hsq r (List.mem_of_getElem? hr)] at hj
    obtain ⟨r2, l1, l2, _⟩ := hS.at hj hi
    obtain ⟨w, l3, l4⟩ := ints_entry hv l1 l2
    show f26 slow K (runQ wk tab slow K (d + 6)) (i64 i) (i64 j) (.int .i64 z) p H = _
    simp only [f26, hp.load, l3, l4, z_eql, z_rest_bool, ent_of hr hz]) hal hrl
   simp only [Bool.not_true, cond_false, z_mkfn0 _ gp, e2, z_call, z_not, z_guard]
   cases b2 : outB (fun i j => ent A i j == ent A j i) A 0 with
   | false =>
    refine ⟨H, ?_, Fr.refl _ _⟩
    have e : chkE A = 6 := by unfold chkE; rw [if_neg h1, if_neg h2, if_pos h3, b1, b2]; rfl
    rw [e]
    rfl
   | true =>
    obtain ⟨H', h4, f4⟩ := pos_ok K hK d H hv hS
    refine ⟨H', ?_, f4⟩
    simp only [Bool.not_true, cond_false, hp.load, h4, z_call, z_not, f8_j9, z_cond]
    have e : chkE A = if posN (ent A) A.length 0 then 0 else 6 := by unfold chkE; rw [if_neg h1, if_neg h2, if_pos h3, b1, b2]; rfl
    rw [e]
    cases posN (ent A) A.length 0 <;> rfl
 | r :: rest, i, fuel, hd, hf, hq => by
  obtain ⟨fuel, rfl⟩ : ∃ q, fuel = q + 1 := ⟨fuel - 1, by omega⟩
  have hlt : i < A.length := Decidable.byContradiction fun h => by
   rw [List.drop_eq_nil_iff.2 (by omega)] at hd
   cases hd
  have hget : A[i]? = some r := by
   have := List.getElem?_drop (xs := A) (i := i) (j := 0)
   rw [hd] at this
   simpa using this.symm
  have hd' : A.drop (i + 1) = rest := by
   rw [<- List.drop_drop, hd]
   rfl
  obtain ⟨ws, hW⟩ := IntsW.of hv
  obtain ⟨w, hw⟩ : ∃ w, ws[i]? = some w := ⟨_, List.getElem?_eq_getElem (by rw [hW.2.1]; exact hlt)⟩
  have hlen : ∀ k, slow.len w k = k (i64 r.length) := fun k => by
   rw [(hW.2.2 i w r hw hget).len]
   simp [intsL]
  have hld : ∀ k, slow.idx 1 v (i64 i) (fun p => slow.load 1 false p H k) = k w := fun k => hW.1.load hw .i64 k
  rw [z_loop4]
  simp only [f8_l3, n_lss, decide_eq_true hlt, z_cond, cond_true, hp.load, hld, hlen, n_neq]
  by_cases e : r.length = A.length
  ·have hn : ¬ r.length ≠ A.length := fun h => h e
   rw [decide_eq_false hn]
   obtain ⟨H', h4, f4⟩ := chk_loop K hK d hp gp hv h1 h2 rest (i + 1) fuel hd' (by simp at hf; omega) (fun q r' hq' hr' => by
    by_cases e2 : q = i
    ·subst e2
     rw [hget] at hr'
     cases hr'
     exact e
    ·exact hq q r' (by omega) hr')
   refine ⟨H', ?_, f4⟩
   simp only [cond_false, w_inc (show i < 1000000 by omega)]
   exact h4
  ·rw [decide_eq_true (show r.length ≠ A.length from e)]
   refine ⟨H, ?_, Fr.refl _ _⟩
   have h3 : ¬ sqB A = true := fun h => e (sq_rows h r (List.mem_of_getElem? hget))
   have e : chkE A = 5 := by unfold chkE; rw [if_neg h1, if_neg h2, if_neg h3]
   rw [e]
   rfl
theorem chk_ok (K : Nat) (hK : 200000 < K) (d : Nat) (H : Heap) {v : SV} {A : List (List Int)} (hv : IsInts2 H v A) :
  ∃ H', runQ wk tab slow K (d + 9) 8 [v] H = some (.int .i64 (chkE A), H') /\ Frame H H' := by
 rw [chk_run]
 obtain ⟨p, H1, b1, f1, hp, gp⟩ := z_boxH (IsRowsC.flat hv) H
 have hv1 : IsInts2 H1 v A := IsRowsC.fr hv f1
 have l1 : ∀ k, slow.lss (i64 A.length) (.int .i64 1) k = k (.bool (decide (A.length < 1))) := fun k => n_lss k .i64 A.length 1
 have l2 : ∀ k, slow.gtr (i64 A.length) (.int .i64 8) k = k (.bool (decide (A.length > 8))) := fun k => n_gtr k .i64 A.length 8
 simp only [f8, b1, hp.load, ints_len hv1, l1, z_guard, l2]
 by_cases h1 : A.length < 1
 ·refine ⟨H1, ?_, f1⟩
  have e : chkE A = 5 := by unfold chkE; rw [if_pos h1]
  rw [decide_eq_true h1, e]
  rfl
 ·rw [decide_eq_false h1]
  by_cases h2 : 8 < A.length
  ·refine ⟨H1, ?_, f1⟩
   have e : chkE A = 5 := by unfold chkE; rw [if_neg h1, if_pos h2]
   rw [decide_eq_true (show A.length > 8 from h2), e]
   rfl
  ·rw [decide_eq_false (show ¬ A.length > 8 from h2)]
   obtain ⟨H', h3, f3⟩ := chk_loop K hK d hp gp hv1 h1 h2 A 0 K rfl (by omega) (fun q r hq => absurd hq (Nat.not_lt_zero q))
   refine ⟨H', ?_, Frame.trans f1 f3⟩
   simp only [cond_false, f8_j1, z_cond, hp.load, ints_len hv1]
   exact h3
theorem Sq.good {A : List (List Int)} (h : Sq A) : Good A := by
 have h0 := h.n0
 have h8 := h.n8
 have hne : A ≠ [] := fun e => by subst e; simp at h0
 have hc : colsOf A = A.length := by
  obtain ⟨r, hr⟩ : ∃ r, A[0]? = some r := ⟨_, List.getElem?_eq_getElem (by omega)⟩
  unfold colsOf
  rw [hr]
  exact h.sq r (List.mem_of_getElem? hr)
 refine ⟨fun r hr => by rw [hc]; exact h.sq r hr, fun _ => by omega, by omega, fun r hr z hz => ?_⟩
 obtain ⟨a, b⟩ := h.sm r hr z hz
 exact Nat.lt_of_lt_of_le (show z.natAbs < 2 ^ 15 by omega) (pow_mono2 15 4096 (by omega))
theorem Sq.cols {A : List (List Int)} (h : Sq A) : colsOf A = A.length := by
 have h0 := h.n0
 obtain ⟨r, hr⟩ : ∃ r, A[0]? = some r := ⟨_, List.getElem?_eq_getElem (by omega)⟩
 unfold colsOf
 rw [hr]
 exact h.sq r (List.mem_of_getElem? hr)
theorem not_wide {A : List (List Int)} {n w : Nat} (hn : A.length = n) (hc : colsOf A = n) (hw : ∀ r ∈ A, ∀ z ∈ r, z.natAbs < 2 ^ w) (h8 : n <= 8) (hw2 : w <= 200) : sqE A = 0 := by
 have h1 : wMat 0 A <= w := by
  have key : ∀ (R : List (List Int)) (x b : Nat), x <= b -> (∀ r ∈ R, ∀ z ∈ r, bl z.natAbs <= b) -> wMat x R <= b := by
   have row : ∀ (r : List Int) (x b : Nat), x <= b -> (∀ z ∈ r, bl z.natAbs <= b) -> wRow x r <= b := by
    intro r
    induction r with
    | nil => intro x b h _; exact h
    | cons z r ih => intro x b h h2; exact ih _ b (Nat.max_le.2 ⟨h, h2 z (by simp)⟩) fun y hy => h2 y (by simp [hy])
   intro R
   induction R with
   | nil => intro x b h _; exact h
   | cons r R ih => intro x b h h2; exact ih _ b (row r x b h (h2 r (by simp))) fun s hs => h2 s (by simp [hs])
  exact key A 0 w (Nat.zero_le _) fun r hr z hz => bl_le.2 (hw r hr z hz)
 have h2 : bl n <= 4 := bl_le.2 (by show n < 16; omega)
 unfold sqE
 rw [if_neg (by omega)]
 have : wideB A = false := by
  unfold wideB
  rw [hn, hc, Nat.min_self]
  apply decide_eq_false
  have h3 : 2 * n * (wMat 0 A + bl n) <= 16 * 204 := Nat.mul_le_mul (by omega) (by omega)
  omega
 rw [this]
 rfl
theorem Sq.sqE {A : List (List Int)} (h : Sq A) : Of.sqE A = 0 := not_wide rfl h.cols (w := 15) (fun r hr z hz => by
 obtain ⟨a, b⟩ := h.sm r hr z hz
 show z.natAbs < 32768
 omega) h.n8 (by omega)
theorem Sq.i64 {A : List (List Int)} (h : Sq A) : ∀ r ∈ A, ∀ z ∈ r, I64 z := fun r hr z hz => by
 obtain ⟨a, b⟩ := h.sm r hr z hz
 unfold I64
 omega
theorem Sq.shaped {A : List (List Int)} (h : Sq A) : ofErr A = 0 /\ ofMat A = A := by
 have h0 := h.n0
 have h8 := h.n8
 have : shapedB (A.map List.length) = true := shapedB_iff.2 (.inr ⟨by omega, fun r hr => by
  have := h.sq r hr
  have := h.cols
  omega⟩)
 unfold ofErr ofMat
 rw [this]
 exact ⟨rfl, rfl⟩
theorem detR_det' {R : List (List Int)} (h : R.length = colsOf R) : detR R = det R.length (ent R) := by
 unfold detR
 rw [<- h]
 exact bare_det _ _
end Go.Sh.Of
namespace Go.Sh.Of
open Go Go.Sh
def FewI (T : List (List Int)) : Prop := T.length <= 100 /\ ∀ r ∈ T, r.length <= 100
def OwnR (lo : Nat) (H : Heap) (v : SV) (L : List (List Int)) : Prop := ∃ ws, Own lo H v ws /\ ws.length = L.length /\ (∀ w ∈ ws, isSlice w) /\ ∀ (q : Nat) w r, ws[q]? = some w -> L[q]? = some r -> Arr H w (intsL .i64 r)
theorem OwnR.ints {lo : Nat} {H : Heap} {v : SV} {L : List (List Int)} (h : OwnR lo H v L) : IsInts2 H v L := by
 obtain ⟨ws, h1, h2, h3, h4⟩ := h
 exact IntsW.to (ws := ws) ⟨h1.arr, h2, h4⟩
theorem OwnR.nil (lo : Nat) (H : Heap) : OwnR lo H (.slice nilSl) [] := ⟨[], Own.nil lo H, rfl, (fun w hw => by cases hw), (fun q w r hw => by simp at hw)⟩
theorem OwnR.fr {lo : Nat} {H H' : Heap} {v : SV} {L : List (List Int)} (h : OwnR lo H v L) (f : Frame H H') : OwnR lo H' v L := by
 obtain ⟨ws, h1, h2, h3, h4⟩ := h
 exact ⟨ws, h1.fr f, h2, h3, fun q w r hw hr => (h4 q w r hw hr).fr f⟩
theorem ints_not {r : List Int} : ∀ c ∈ intsL .i64 r, ¬ isSlice c := fun c hc => by
 obtain ⟨s, _, rfl⟩ := List.mem_map.1 hc
 exact id
theorem OwnR.push {lo : Nat} {H : Heap} {v : SV} {L : List (List Int)} (h : OwnR lo H v L) (hlo : lo <= H.size) (hl : L.length < 100000) {u : SV} {r : List Int} (hu : Arr H u (intsL .i64 r)) :
  ∃ v' H', (∀ k, slow.hbuild 1 [.slice nilSl] [(0, 1)] [u] H (fun x H1 => slow.append 1 24 v x H1 k) = k v' H') /\ OwnR lo H' v' (L ++ [r]) /\ Fr lo H H' /\ (∀ r, ¬ inRow v r -> r < H.size -> H'.get r = H.get r) := by
 obtain ⟨ws, h1, h2, h3, h4⟩ := h
 obtain ⟨v', H', e, o, f, hro⟩ := push1 h1 hlo (.slice nilSl) (x := u) hu.flat (by_ := 24) (roomy_small (by omega))
 have keep : ∀ {w : SV} {r : List Int}, Arr H w (intsL .i64 r) -> Arr H' w (intsL .i64 r) := fun ha => Arr.keep ha ints_not (X := fun r => inRow v r) (fun r rw hr hg c hc => by rw [Own.cells h1 hr hg] at hc; exact h3 c hc) hro
 refine ⟨v', H', e, ⟨ws ++ [u], o, by simp [h2], fun w hw => ?_, fun q w r' hw hr => ?_⟩, f, hro⟩
 ·rcases List.mem_append.1 hw with hw | hw
  ·exact h3 w hw
  ·rw [List.mem_singleton.1 hw]; exact Arr.isSlice hu
 ·by_cases hq : q < ws.length
  ·rw [List.getElem?_append_left hq] at hw
   rw [List.getElem?_append_left (by omega)] at hr
   exact keep (h4 q w r' hw hr)
  ·have hq2 : q = ws.length := by have := (List.getElem?_eq_some_iff.1 hw).1; simp at this; omega
   subst hq2
   rw [h2] at hr
   simp at hw hr
   subst hw hr
   exact keep hu
theorem mof_w (K : Nat) (hK : 1000000 < K) (d : Nat) (H : Heap) {v : SV} {A : List (List Int)} (hv : IsInts2 H v A) (hs : Sq A) :
  ∃ w H', runQ wk tab slow K (d + 20) 31 [v] H = some (.tuple [.agg [w], .int .i64 0], H') /\ Frame H H' /\ IsMat H' (.agg [w]) A := by
 obtain ⟨r, H', h1, f1, m1⟩ := mof_ok K (by omega) (d + 14) H hv hs.i64 (by have := hs.n8; omega)
 obtain ⟨e1, e2⟩ := hs.shaped
 rw [e1] at h1
 rw [e2] at m1
 obtain ⟨w, rfl, m2⟩ := m1.mat
 exact ⟨w, H', h1, f1, w, rfl, m2⟩
theorem sdet_w (K : Nat) (hK : 1000000 < K) (d : Nat) (H : Heap) {w : SV} {A : List (List Int)} (hv : IsMat H (.agg [w]) A) (hs : Sq A) :
  ∃ x y H', runQ wk tab slow K (d + 20) 32 [.agg [w]] H = some (.tuple [.agg [x, y], .int .i64 0], H') /\ Frame H H' /\ IsInt H' (.agg [x, y]) (det A.length (ent A)) := by
 have hg := hs.good
 obtain ⟨r, H1, h1, g1, n1⟩ := det_ok K (by omega) (d + 11) H hv hg hg.big hg.rows (fun r hr => by have := hs.sq r hr; have := hs.n8; omega) hg.c16
 rw [hs.sqE] at h1
 rw [hs.sqE, if_pos rfl, detR_det' hs.cols.symm] at n1
 have n1' := n1
 obtain ⟨s, rfl, _, _⟩ := n1
 exact ⟨_, _, H1, h1, g1, n1'⟩
theorem sq_det_small {A : List (List Int)} (hs : Sq A) : (det A.length (ent A)).natAbs < 2 ^ 4096 := by
 have hb := hs.bd
 have h0 := hs.n0
 refine hb.small (by omega) (s := A.length) (by omega) ?_
 rw [hb.hX]
 exact det_abs (Nat.le_refl _) fun i k hi hk => hb.ent i k hi hk
end Go.Sh.Of

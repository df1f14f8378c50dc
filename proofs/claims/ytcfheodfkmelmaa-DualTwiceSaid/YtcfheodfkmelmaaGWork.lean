/- A matrix in work, of structs of any kind: its rows are its own. -/
import Derived.Test.YtcfheodfkmelmaaChk
set_option linter.unusedVariables false
set_option linter.unusedSimpArgs false
namespace Go.Sh.Of
open Go
def gCell (N : Nat) (e : List SV) : Prop := e.length = N /\ ∀ c ∈ e, ∀ kd n, c ≠ .int kd n
theorem gCells_flat {N : Nat} {els : List (List SV)} (h : ∀ e ∈ els, gCell N e) : ∀ c ∈ els.flatten, ∀ kd n, c ≠ .int kd n := fun c hc kd n => by
 obtain ⟨e, he, hce⟩ := List.mem_flatten.1 hc
 exact (h e he).2 c hce kd n
structure PCell {α : Type} (N : Nat) (P : Heap -> SV -> α -> Prop) : Prop where
 pos : 2 <= N
 cell : ∀ {H : Heap} {e : List SV} {z : α}, P H (.agg e) z -> gCell N e
 agg : ∀ {H : Heap} {v : SV} {z : α}, P H v z -> ∃ e, v = .agg e
 keep : ∀ {H H' : Heap} {v : SV} {z : α}, P H v z -> ∀ {X : Nat -> Prop}, (∀ r row, X r -> H.get r = some row -> ∀ c ∈ row.cells, ∀ kd n, c ≠ .int kd n) -> (∀ r, ¬ X r -> r < H.size -> H'.get r = H.get r) -> P H' v z
theorem ownS_apartG {N : Nat} (hN : 2 <= N) {lo lo' : Nat} {H : Heap} {v w : SV} {cs : List SV} {els : List (List SV)} (h : Own lo H v cs) (h' : OwnS N lo' H w els) {r : Nat} (hr : inRow v r) : ¬ inRow w r := fun hr' => by
 obtain ⟨base, rfl, h⟩ := h
 obtain ⟨s, o, e, h4⟩ := hr
 cases e
 obtain ⟨_, base', rfl, h'⟩ := h'
 obtain ⟨s', o', e', h5⟩ := hr'
 cases e'
 rcases h with ⟨rfl, _⟩ | ⟨r1, ver, rfl, _, h3⟩
 ·cases h4
 ·cases h4
  rcases h' with ⟨rfl, _⟩ | ⟨r2, ver', rfl, _, h6⟩
  ·cases h5
  ·cases h5
   rw [h3] at h6
   injection h6 with h6
   injection h6 with _ h7 _ _
   omega
def GRow {α : Type} (N : Nat) (P : Heap -> SV -> α -> Prop) (lo : Nat) (H : Heap) (w : SV) (f : Nat -> α) (cols : Nat) : Prop := ∃ els, OwnS N lo H w els /\ els.length = cols /\ (∀ e ∈ els, gCell N e) /\ ∀ (t : Nat) e, els[t]? = some e -> P H (.agg e) (f t)
structure GWork {α : Type} (N : Nat) (P : Heap -> SV -> α -> Prop) (lo : Nat) (H : Heap) (v : SV) (ws : List SV) (m : Nat -> Nat -> α) (rows cols : Nat) : Prop where
 out : Own lo H v ws
 len : ws.length = rows
 row : ∀ (i : Nat) w, ws[i]? = some w -> GRow N P lo H w (m i) cols
 dis : ∀ (i j : Nat) w w' r, ws[i]? = some w -> ws[j]? = some w' -> inRow w r -> inRow w' r -> i = j
theorem GRow.keep {α : Type} {N : Nat} {P : Heap -> SV -> α -> Prop} (hP : PCell N P) {lo : Nat} {H H' : Heap} {w : SV} {f : Nat -> α} {cols : Nat} (h : GRow N P lo H w f cols) {X : Nat -> Prop} (hX : ∀ r row, X r -> H.get r = some row -> ∀ c ∈ row.cells, ∀ kd n, c ≠ .int kd n) (hro : ∀ r, ¬ X r -> r < H.size -> H'.get r = H.get r) (hw : ∀ r, inRow w r -> ¬ X r) : GRow N P lo H' w f cols := by
 obtain ⟨els, h1, h2, h3, h4⟩ := h
 exact ⟨els, h1.of_rows fun r hr => hro r (hw r hr) (OwnS.lt2 h1 hr), h2, h3, fun t e he => hP.keep (h4 t e he) hX hro⟩
where
 OwnS.lt2 {n lo : Nat} {H : Heap} {v : SV} {els : List (List SV)} (h : OwnS n lo H v els) {r : Nat} (hr : inRow v r) : r < H.size := by
  obtain ⟨_, base, rfl, h⟩ := h
  obtain ⟨s, o, e, h4⟩ := hr
  cases e
  rcases h with ⟨rfl, _⟩ | ⟨r', ver, rfl, h2, h3⟩
  ·cases h4
  ·cases h4; exact Heap.get_lt h3
theorem GRow.fr {α : Type} {N : Nat} {P : Heap -> SV -> α -> Prop} (hP : PCell N P) {lo : Nat} {H H' : Heap} {w : SV} {f : Nat -> α} {cols : Nat} (h : GRow N P lo H w f cols) (hf : Frame H H') : GRow N P lo H' w f cols :=
 h.keep hP (X := fun _ => False) (fun r row hx => hx.elim) (fun r _ hr => hf.rows r hr) fun r _ => id
theorem GWork.fr {α : Type} {N : Nat} {P : Heap -> SV -> α -> Prop} (hP : PCell N P) {lo : Nat} {H H' : Heap} {v : SV} {ws : List SV} {m : Nat -> Nat -> α} {rows cols : Nat} (h : GWork N P lo H v ws m rows cols) (hf : Frame H H') : GWork N P lo H' v ws m rows cols :=
 ⟨h.out.fr hf, h.len, fun i w hw => (h.row i w hw).fr hP hf, h.dis⟩
theorem GRow.load {α : Type} {N : Nat} {P : Heap -> SV -> α -> Prop} (hP : PCell N P) {lo : Nat} {H : Heap} {w : SV} {f : Nat -> α} {cols : Nat} (h : GRow N P lo H w f cols) {t : Nat} (ht : t < cols) : ∃ e, (∀ k, slow.idx N w (i64 t) (fun p => slow.load N true p H k) = k (.agg e)) /\ P H (.agg e) (f t) := by
 obtain ⟨els, h1, h2, h3, h4⟩ := h
 obtain ⟨e, he⟩ : ∃ e, els[t]? = some e := ⟨_, List.getElem?_eq_getElem (by omega)⟩
 exact ⟨e, fun k => h1.arr.load (by have := hP.pos; omega) he .i64 k, h4 t e he⟩
theorem GWork.load {α : Type} {N : Nat} {P : Heap -> SV -> α -> Prop} (hP : PCell N P) {lo : Nat} {H : Heap} {v : SV} {ws : List SV} {m : Nat -> Nat -> α} {rows cols : Nat} (h : GWork N P lo H v ws m rows cols) {i t : Nat} (hi : i < rows) (ht : t < cols) : ∃ w e, ws[i]? = some w /\ (∀ k, slow.idx 1 v (i64 i) (fun p => slow.load 1 false p H k) = k w) /\ (∀ k, slow.idx N w (i64 t) (fun p => slow.load N true p H k) = k (.agg e)) /\ P H (.agg e) (m i t) := by
 obtain ⟨w, hw⟩ : ∃ w, ws[i]? = some w := ⟨_, List.getElem?_eq_getElem (by rw [h.len]; exact hi)⟩
 obtain ⟨e, h1, h2⟩ := (h.row i w hw).load hP ht
 exact ⟨w, e, hw, fun k => h.out.arr.load hw .i64 k, h1, h2⟩
theorem GWork.slices {α : Type} {N : Nat} {P : Heap -> SV -> α -> Prop} {lo : Nat} {H : Heap} {v : SV} {ws : List SV} {m : Nat -> Nat -> α} {rows cols : Nat} (h : GWork N P lo H v ws m rows cols) : ∀ w ∈ ws, isSlice w := fun w hw => by
 obtain ⟨i, hi⟩ := List.getElem?_of_mem hw
 obtain ⟨ei, oi, _⟩ := h.row i w hi
 obtain ⟨_, base, rfl, _⟩ := oi
 trivial
theorem GRow.len {α : Type} {N : Nat} {P : Heap -> SV -> α -> Prop} {lo : Nat} {H : Heap} {w : SV} {f : Nat -> α} {cols : Nat} (h : GRow N P lo H w f cols) (k : K1) : slow.len w k = k (i64 cols) := by
 obtain ⟨els, h1, h2, _⟩ := h
 rw [h1.arr.len, h2]
theorem GWork.size {α : Type} {N : Nat} {P : Heap -> SV -> α -> Prop} {lo : Nat} {H : Heap} {v : SV} {ws : List SV} {m : Nat -> Nat -> α} {rows cols : Nat} (h : GWork N P lo H v ws m rows cols) (k : K1) : slow.len v k = k (i64 rows) := by
 rw [h.out.arr.len, h.len]
theorem GWork.push {α : Type} {N : Nat} {P : Heap -> SV -> α -> Prop} (hP : PCell N P) {lo : Nat} {Hi H : Heap} {m row : SV} {ws : List SV} {E : Nat -> Nat -> α} {i cols : Nat} (hw : GWork N P lo Hi m ws E i cols) (hlo : lo <= Hi.size) (hf : Frame Hi H) (hz : GRow N P Hi.size H row (E i) cols) (hi : i < 1000) :
  ∃ m' H', (∀ k, slow.hbuild 1 [.slice nilSl] [(0, 1)] [row] H (fun u H1 => slow.append 1 24 m u H1 k) = k m' H') /\ GWork N P lo H' m' (ws ++ [row]) E (i + 1) cols /\ Fr lo Hi H' /\ (∀ r, ¬ inRow m r -> r < H.size -> H'.get r = H.get r) := by
 have hwl := hw.len
 have hws := hw.slices
 obtain ⟨els2, o2, g2⟩ := hz
 have hz : GRow N P Hi.size H row (E i) cols := ⟨els2, o2, g2⟩
 have hw2 := hw.fr hP hf
 obtain ⟨m', H3, h3, o3, f3, hro3⟩ := push1 hw2.out (Nat.le_trans hlo hf.size) (.slice nilSl) (x := row) o2.arr.flat (by_ := 24) (roomy_small (by omega))
 have hX : ∀ r row', inRow m r -> H.get r = some row' -> ∀ c ∈ row'.cells, ∀ kd n, c ≠ .int kd n := fun r row' hr hg c hc => by
  rw [Own.cells hw2.out hr hg] at hc
  exact isSlice_not_int (hws c hc)
 have cases_q : ∀ (q : Nat) w, (ws ++ [row])[q]? = some w -> (q < i /\ ws[q]? = some w) \/ (q = i /\ w = row) := fun q w hq => by
  by_cases hqw : q < ws.length
  ·rw [List.getElem?_append_left hqw] at hq
   exact .inl ⟨by omega, hq⟩
  ·have hq2 : q = ws.length := by have := (List.getElem?_eq_some_iff.1 hq).1; simp at this; omega
   subst hq2
   simp at hq
   exact .inr ⟨by omega, hq.symm⟩
 have hz3 : GRow N P Hi.size H3 row (E i) cols := hz.keep hP hX hro3 fun r hr hl => ownS_apartG hP.pos hw2.out o2 hl hr
 obtain ⟨els3, os3, g3⟩ := hz3
 refine ⟨m', H3, h3, ⟨o3, by simp [hwl], fun q w hq => ?_, fun q q' w w' r hq hq' hr hr' => ?_⟩, Fr.trans (hf.mono hlo) f3, hro3⟩
 ·rcases cases_q q w hq with ⟨a, hq⟩ | ⟨rfl, rfl⟩
  ·obtain ⟨ei, oi, _⟩ := hw2.row q w hq
   exact (hw2.row q w hq).keep hP hX hro3 fun r hr hl => ownS_apartG hP.pos hw2.out oi hl hr
  ·exact ⟨els3, OwnS.mono2 os3 hlo, g3⟩
 ·rcases cases_q q w hq with ⟨a, b1⟩ | ⟨a, rfl⟩ <;> rcases cases_q q' w' hq' with ⟨a', b2⟩ | ⟨a', rfl⟩
  ·exact hw.dis q q' w w' r b1 b2 hr hr'
  ·obtain ⟨ei, oi, _⟩ := hw.row q w b1
   have h3 := (OwnS.bd oi hr).2
   have h4 := (OwnS.bd os3 hr').1
   omega
  ·obtain ⟨ei, oi, _⟩ := hw.row q' w' b2
   have h3 := (OwnS.bd oi hr').2
   have h4 := (OwnS.bd os3 hr).1
   omega
  ·omega
theorem GRow.flat {α : Type} {N : Nat} {P : Heap -> SV -> α -> Prop} {lo : Nat} {H : Heap} {w : SV} {f : Nat -> α} {cols : Nat} (h : GRow N P lo H w f cols) : ∀ r row, inRow w r -> H.get r = some row -> ∀ c ∈ row.cells, ∀ kd n, c ≠ .int kd n := fun r row hr hg => by
 obtain ⟨els, h1, h2, h3, h4⟩ := h
 rw [OwnS.cells h1 hr hg]
 exact gCells_flat h3
theorem GRow.mono {α : Type} {N : Nat} {P : Heap -> SV -> α -> Prop} {lo lo' : Nat} {H : Heap} {w : SV} {f : Nat -> α} {cols : Nat} (h : GRow N P lo H w f cols) (hl : lo' <= lo) : GRow N P lo' H w f cols := by
 obtain ⟨els, h1, h2⟩ := h
 exact ⟨els, OwnS.mono2 h1 hl, h2⟩
end Go.Sh.Of

/- Structs' slices that are cut: xs[:n], xs[n:]. -/
import Derived.Test.YtfmdgondhgdieaaGreatRSteps
set_option linter.unusedVariables false
set_option linter.unusedSimpArgs false
namespace Go.Sh.Of
open Go Go.Sh
theorem cut010 {H : Heap} {v : SV} {els : List (List SV)} (h : ArrS 2 H v els) {n : Nat} (hn : n <= els.length) :
  ∃ v', (∀ k, slow.slice010 2 v (i64 n) H k = k v') /\ ArrS 2 H v' (els.take n) := by
 obtain ⟨s, rfl, h2, h0, h3⟩ := h
 have hfit : fitsCap H 2 s n = true := by
  unfold fitsCap
  rw [decide_eq_true (by rw [h2]; omega)]
  rfl
 have hesz : eszOk H 2 s 0 = true := rfl
 refine ⟨.slice { s with len := n, cap := s.cap.map (· - 0) }, fun k => ?_, ⟨_, rfl, by simp; omega, fun e he => h0 e (List.mem_of_mem_take he), ?_⟩⟩
 ·show (opR (.slice 2 false true false) [.slice s, i64 n] H).bind k = _
  simp only [opR, sliceOp, loOf]
  rw [if_pos ⟨by omega, by omega, hfit, hesz⟩]
  simp [subSl]
 ·rcases h3 with rfl | ⟨r, o, row, b1, b2, b3, b4⟩
  ·left; simp
  ·right
   refine ⟨r, o, row, b1, b2, b3, fun i e he => ?_⟩
   rw [List.getElem?_take] at he
   split at he
   ·exact b4 i e he
   ·cases he
theorem cut100 {H : Heap} {v : SV} {els : List (List SV)} (h : ArrE H v els) (h0 : els ≠ []) {n : Nat} (hn : n <= els.length) :
  ∃ v', (∀ k, slow.slice100 2 v (i64 n) H k = k v') /\ ArrS 2 H v' (els.drop n) := by
 have hE : ∀ s, v = .slice s -> ∀ a, eszOk H 2 s a = true := h.esz.resolve_left h0
 obtain ⟨s, rfl, h2, g0, h3⟩ := h.arr
 have hE' := hE s rfl
 have hlen : (s.len : Int) - (n : Int) = ((s.len - n : Nat) : Int) := by omega
 refine ⟨.slice (subSl 2 s n (s.len - n) (s.cap.map (· - n))), fun k => ?_, ?_⟩
 ·show (opR (.slice 2 true false false) [.slice s, i64 n] H).bind k = _
  simp only [opR, sliceOp, loOf]
  rw [if_pos ⟨by omega, by omega, hE' _⟩, Int.toNat_natCast]
  rfl
 ·rcases h3 with e | ⟨r, o, row, b1, b2, b3, b4⟩
  ·exact absurd e h0
  ·have hd : ∀ e ∈ els.drop n, e.length = 2 := fun e he => g0 e (List.mem_of_mem_drop he)
   cases n with
   | zero => exact ⟨_, rfl, by simp [subSl, h2], hd, .inr ⟨r, o, row, b1, b2, b3, fun i e he => b4 i e (by simpa using he)⟩⟩
   | succ n =>
    refine ⟨⟨some (r, o + (n + 1) * 2), s.len - (n + 1), s.cap.map (· - (n + 1)), o⟩, by simp only [subSl, b1], by simp [h2], hd, .inr ⟨r, o + (n + 1) * 2, row, rfl, b2, b3, fun i e he j x hx => ?_⟩⟩
    rw [List.getElem?_drop] at he
    have := b4 (n + 1 + i) e he j x hx
    rwa [show o + (n + 1 + i) * 2 + j = o + (n + 1) * 2 + i * 2 + j by omega] at this
def dropI {α : Type} (l : List α) (i : Nat) : List α := l.take i ++ l.drop (i + 1)
theorem dropI_get {α : Type} {l : List α} {i k : Nat} (hi : i < l.length) : (dropI l i)[k]? = l[skip i k]? := by
 unfold dropI skip
 by_cases h : k < i
 ·rw [if_pos h, List.getElem?_append_left (by rw [List.length_take]; omega), List.getElem?_take, if_pos h]
 ·rw [if_neg h, List.getElem?_append_right (by rw [List.length_take]; omega), List.getElem?_drop, List.length_take]
  congr 1
  omega
theorem dropI_len {α : Type} {l : List α} {i : Nat} (hi : i < l.length) : (dropI l i).length = l.length - 1 := by
 unfold dropI
 rw [List.length_append, List.length_take, List.length_drop]
 omega
theorem row_without {H : Heap} {u : SV} {zs : List Int} (hu : IsRZs H u zs) {i : Nat} (hi : i < zs.length) (hl : zs.length <= 16) :
  ∃ c1 t1 H1, (∀ k, slow.slice010 2 u (i64 i) H k = k c1) /\ (∀ k, slow.append 2 32 (.slice nilSl) c1 H k = k t1 H1) /\ Frame H H1 /\ 
   ∃ c2 t2 H2, (∀ k, slow.slice100 2 u (i64 (i + 1)) H1 k = k c2) /\ (∀ k, slow.append 2 32 t1 c2 H1 k = k t2 H2) /\ Fr H.size H1 H2 /\ RRow H.size H2 t2 (dropI zs i) := by
 obtain ⟨els, h1, h2, h3⟩ := hu
 have hne : els ≠ [] := fun e => by rw [e] at h2; simp at h2; omega
 obtain ⟨c1, g1, a1⟩ := cut010 h1.arr (n := i) (by omega)
 obtain ⟨t1, H1, p1, o1, f1, _, _⟩ := (OwnS.nil 2 H.size H).append (by decide) (Nat.le_refl _) a1 (by_ := 32) (roomy_small (by simp; omega))
 rw [List.nil_append] at o1
 obtain ⟨c2, g2, a2⟩ := cut100 (h1.fr f1) hne (n := i + 1) (by omega)
 obtain ⟨t2, H2, p2, o2, f2, hro, _⟩ := o1.append (by decide) f1.size a2 (by_ := 32) (roomy_small (by simp; omega))
 refine ⟨c1, t1, H1, g1, p1, f1, c2, t2, H2, g2, p2, f2, ?_⟩
 have hel : els.take i ++ els.drop (i + 1) = dropI els i := rfl
 rw [hel] at o2
 have hcell : ∀ e ∈ els, zCell e := fun e he => by
  obtain ⟨q, hq⟩ := List.getElem?_of_mem he
  obtain ⟨z, hz⟩ : ∃ z, zs[q]? = some z := ⟨_, List.getElem?_eq_getElem (by have := (List.getElem?_eq_some_iff.1 hq).1; omega)⟩
  exact (h3 q e z hq hz).cell
 have hmem : ∀ e ∈ dropI els i, e ∈ els := fun e he => by
  rcases List.mem_append.1 he with h | h
  ·exact List.mem_of_mem_take h
  ·exact List.mem_of_mem_drop h
 refine ⟨dropI els i, o2, by rw [dropI_len (by omega), dropI_len hi]; omega, fun e he => hcell e (hmem e he), fun q e z he hz => ?_⟩
 rw [dropI_get (by omega)] at he
 rw [dropI_get hi] at hz
 exact ((h3 _ e z he hz).fr f1).keepI (X := fun r => inRow t1 r) (fun r row hx hg => by
  rw [OwnS.cells o1 hx hg]
  exact zCells_flat fun e he => hcell e (List.mem_of_mem_take he)) hro
end Go.Sh.Of

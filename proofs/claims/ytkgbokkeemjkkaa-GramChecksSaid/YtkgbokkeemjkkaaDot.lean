/- Contracts of gram: dot, Dot, Norm. -/
import Derived.Test.YtkgbokkeemjkkaaChk
set_option linter.unusedVariables false
set_option linter.unusedSimpArgs false
namespace Go.Sh.Of
open Go Go.Sh

theorem Holds.same {H H' : Heap} {p x : SV} (h : Holds H p x) (f : Frame H H') (t : Rs) : slow.same p H H' t = t := by
  obtain ⟨r, row, rfl, h2, h3, h4⟩ := h
  have e : H'.ver r = H.ver r := by unfold Heap.ver; rw [f.rows r (Heap.get_lt h2)]
  show (bif sameRow (.ptr (r, 0)) H H' then t else none) = t
  simp only [sameRow, rowOf, e, verEq_same, cond_true]
/-! ### A box of a whole number -/
def ZBox (q : Nat) (H : Heap) (z : Int) : Prop := ∃ ver b s, H.get q = some ⟨2, 1, ver, [.bool b, .slice s]⟩ ∧ IsInt H (.agg [.bool b, .slice s]) z
theorem ZBox.fr {q : Nat} {H H' : Heap} {z : Int} (h : ZBox q H z) (f : Frame H H') : ZBox q H' z := by
  obtain ⟨ver, b, s, h1, h2⟩ := h
  exact ⟨ver, b, s, (f.rows q (Heap.get_lt h1)).trans h1, h2.fr f⟩
theorem ZBox.load {q : Nat} {H : Heap} {z : Int} (h : ZBox q H z) : ∃ x y, (∀ k, slow.load 2 true (.ptr (q, 0)) H k = k (.agg [x, y])) ∧ IsInt H (.agg [x, y]) z := by
  obtain ⟨ver, b, s, h1, h2⟩ := h
  refine ⟨_, _, fun k => ?_, h2⟩
  show (opR (.load 2 true) [.ptr (q, 0)] H).bind k = _
  have hb : Nat.beq 2 0 = false := rfl
  have hc : cut [SV.bool b, SV.slice s] 0 2 = some [SV.bool b, SV.slice s] := rfl
  simp only [opR, Heap.read, h1, hb, cond_false, hc, shaped, Option.bind_some]
theorem ZBox.store {q : Nat} {H : Heap} {z z' : Int} (h : ZBox q H z) {x y : SV} (hn : IsInt H (.agg [x, y]) z') : ∃ H', (∀ k, slow.store 2 (.ptr (q, 0)) (.agg [x, y]) H k = k H') ∧ ZBox q H' z' ∧ H'.size = H.size ∧ ∀ r, r ≠ q → H'.get r = H.get r := by
  obtain ⟨ver, b, s, h1, h2⟩ := h
  obtain ⟨b', s', e⟩ := hn.cell
  cases e
  have hro : ∀ r, r ≠ q → (H.set q ⟨2, 1, ver + 1, [.bool b', .slice s']⟩).get r = H.get r := fun r hr => Heap.get_set_ne _ (Ne.symm hr) _
  refine ⟨H.set q ⟨2, 1, ver + 1, [.bool b', .slice s']⟩, fun k => ?_, ⟨ver + 1, b', s', Heap.get_set_self h1 _, hn.keep (X := fun r => r = q) (fun r row e hg c hc kd n => ?_) fun r hr _ => hro r hr⟩, rfl, hro⟩
  · show (opE (.store 2) [.ptr (q, 0), .agg [.bool b', .slice s']] H).bind _ = _
    have hb1 : Nat.beq ([SV.bool b', SV.slice s'] : List SV).length 2 = true := rfl
    have hb2 : Nat.beq 2 2 = true := rfl
    have hb3 : (([SV.bool b', SV.slice s'] : List SV).all SV.flat) = true := rfl
    have hsp : splice [SV.bool b, SV.slice s] 0 [SV.bool b', SV.slice s'] = some [SV.bool b', SV.slice s'] := rfl
    simp only [opE, SV.item, SV.cells, hb3, hb1, Bool.true_and, Bool.and_true, cond_true, Heap.write, h1, hb2, hsp, Option.map_some, Option.bind_some]
  · subst e
    rw [h1] at hg
    cases hg
    rcases List.mem_cons.1 hc with rfl | hc
    · intro e; cases e
    · rw [List.mem_singleton.1 hc]
      intro e; cases e
theorem ZBox.new (H : Heap) : ∃ H' H'', (∀ k, slow.alloc [.bool false, .slice nilSl] H k = k (.ptr (H.size, 0)) H') ∧ (∀ k, slow.store 2 (.ptr (H.size, 0)) (.agg [.bool false, .slice nilSl]) H' k = k H'') ∧ Frame H H'' ∧ ZBox H.size H'' 0 := by
  have h1 : (H.push (newRow 1 [.bool false, .slice nilSl])).get H.size = some ⟨2, 1, 0, [.bool false, .slice nilSl]⟩ := Heap.get_push_self _ _
  have hz : ZBox H.size (H.push (newRow 1 [.bool false, .slice nilSl])) 0 := ⟨0, false, nilSl, h1, IsInt.zero _⟩
  have hs : (H.push (newRow 1 [.bool false, .slice nilSl])).size = H.size + 1 := by simp [Heap.size_push]
  obtain ⟨H2, s1, z2, e2, r2⟩ := hz.store (IsInt.zero _)
  exact ⟨_, H2, fun k => rfl, s1, ⟨by omega, fun r hr => by rw [r2 r (by omega), Heap.get_push_ne _ _ (by omega)]⟩, z2⟩
/-! ### dot -/
end Go.Sh.Of


/- MatReckons: what is done to two matrices. -/
import Derived.Test.YtdibokcaoefeaaaReadL
import Derived.Test.YtdibokcaoefeaaaRefT
set_option linter.unusedVariables false
set_option linter.unusedSimpArgs false
namespace Go.Sh.Of
open Go Go.Sh

theorem sumM_if (A B : List (List Int)) (ha : Good A) : Good (if addE A B = 0 then addM A B else []) := by
  split
  · rename_i h; exact addM_good ha h
  · exact Good.nil
theorem mulM_if (A B : List (List Int)) (ha : Good A) (hb : Good B) : Good (if mulE A B = 0 then mulM A B else []) := by
  split
  · rename_i h; exact mulM_good ha hb h
  · exact Good.nil
theorem if_if {e : Int} (X : List (List Int)) : (if e = 0 then X else []) = if e = 0 then (if e = 0 then X else []) else [] := by
  split <;> rfl
theorem reck_j5 (K : Nat) (hK : 3000000 < K) (d : Nat) (H : Heap) {la lb : Nat} {wa wb va vb : SV} {A B : List (List Int)} (h1 : IsMat H (.agg [wa]) A) (h2 : IsMat H (.agg [wb]) B) (h3 : IsRRows la H va A) (h4 : IsRRows lb H vb B) (ha : Good A) (hb : Good B) :
    ∃ H', f4_j5 slow K (runQ wk tab slow K (d + 20)) (.box [wa]) va (.box [wb]) vb (.bool false) H = some (.bool true, H') := by
  obtain ⟨r, H1, c1, f1, m1⟩ := mmul_ok K (by omega) (d + 10) H h1 h2 ha hb
  rw [show d + 10 + 10 = d + 20 from rfl] at c1
  obtain ⟨u, rfl⟩ := m1.agg
  obtain ⟨s, H2, c2, f2, m2⟩ := rprod_ok K hK (d + 16) H1 (h3.fr f1) (h4.fr f1) ha hb
  rw [show d + 16 + 4 = d + 20 from rfl] at c2
  have g12 := Frame.trans f1 f2
  obtain ⟨H3, c3, f3⟩ := same_both K hK (d + 12) H2 (mulM_if A B ha hb) (if_if _) (m1.mat.fr f2) m2
  rw [show d + 12 + 8 = d + 20 from rfl] at c3
  have g13 := Frame.trans g12 f3
  obtain ⟨t, H4, c4, f4, m4⟩ := mtrans_ok K (by omega) (d + 17) H3 (h1.fr g13) ha
  rw [show d + 17 + 3 = d + 20 from rfl] at c4
  have g14 := Frame.trans g13 f4
  obtain ⟨s2, H5, c5, f5, m5⟩ := rtrans_ok K (by omega) (d + 18) H4 (h3.fr g14) ha
  rw [show d + 18 + 2 = d + 20 from rfl] at c5
  have g15 := Frame.trans g14 f5
  obtain ⟨H6, c6, f6⟩ := same_both K hK (d + 12) H5 (e := 0) (trM_good ha) (if_pos rfl).symm (m4.mat.fr f5) m5
  rw [show d + 12 + 8 = d + 20 from rfl] at c6
  have g16 := Frame.trans g15 f6
  obtain ⟨H7, c7, f7⟩ := same_both K hK (d + 12) H6 (e := 0) ha (if_pos rfl).symm (h1.fr g16) (h3.fr g16)
  rw [show d + 12 + 8 = d + 20 from rfl] at c7
  have g17 := Frame.trans g16 f7
  obtain ⟨H8, c8, f8⟩ := same_both K hK (d + 12) H7 (e := 0) hb (if_pos rfl).symm (h2.fr g17) (h4.fr g17)
  rw [show d + 12 + 8 = d + 20 from rfl] at c8
  refine ⟨H8, ?_⟩
  simp only [f4_j5, z_cond, cond_false, z_lload1, c1, z_call, z_ext0, z_ext1, z_bst1, c2, c3, z_guard, cond_true, c4, c5, c6, c7, c8, f4_j7, z_rest_bool]
theorem reck_j3 (K : Nat) (hK : 3000000 < K) (d : Nat) (H : Heap) {la lb : Nat} {wa wb va vb : SV} {A B : List (List Int)} (h1 : IsMat H (.agg [wa]) A) (h2 : IsMat H (.agg [wb]) B) (h3 : IsRRows la H va A) (h4 : IsRRows lb H vb B) (ha : Good A) (hb : Good B) :
    ∃ H', f4_j3 slow K (runQ wk tab slow K (d + 20)) (.box [wa]) va (.box [wb]) vb (.bool false) H = some (.bool true, H') := by
  obtain ⟨r, H1, c1, f1, m1⟩ := madd_ok K (by omega) (d + 10) H h1 h2 ha hb
  rw [show d + 10 + 10 = d + 20 from rfl] at c1
  obtain ⟨u, rfl⟩ := m1.agg
  obtain ⟨s, H2, c2, f2, m2⟩ := rsum_ok K hK (d + 16) H1 (h3.fr f1) (h4.fr f1) ha hb
  rw [show d + 16 + 4 = d + 20 from rfl] at c2
  have g12 := Frame.trans f1 f2
  obtain ⟨H3, c3, f3⟩ := same_both K hK (d + 12) H2 (sumM_if A B ha) (if_if _) (m1.mat.fr f2) m2
  rw [show d + 12 + 8 = d + 20 from rfl] at c3
  have g13 := Frame.trans g12 f3
  have c4 := msame_ok K (by omega) (d + 17) H3 (h1.fr g13) (h2.fr g13) ha hb
  rw [show d + 17 + 3 = d + 20 from rfl] at c4
  obtain ⟨H4, c5, f4⟩ := rsame_ok K hK (d + 16) H3 (h3.fr g13) (h4.fr g13) ha hb
  rw [show d + 16 + 4 = d + 20 from rfl] at c5
  have g14 := Frame.trans g13 f4
  obtain ⟨H5, c6⟩ := reck_j5 K hK d H4 (h1.fr g14) (h2.fr g14) (h3.fr g14) (h4.fr g14) ha hb
  refine ⟨H5, ?_⟩
  have hn : (!(decide (A = B) == decide (A = B))) = false := by rw [beq_self_eq_true]; rfl
  simp only [f4_j3, z_cond, cond_false, z_lload1, c1, z_call, z_ext0, z_ext1, z_bst1, c2, c3, z_not, Bool.not_true, z_guard, c4, c5, z_bneq, hn, c6]
theorem reck_ok (K : Nat) (hK : 3000000 < K) (d : Nat) (H : Heap) {va vb : SV} {S T : List (List (List UInt8))} (hva : IsTexts H va S) (hvb : IsTexts H vb T) (ca : Cutable va) (cb : Cutable vb) (la : TextsOk K S) (lb : TextsOk K T) :
    ∃ H', runQ wk tab slow K (d + 21) 4 [va, vb] H = some (.bool true, H') := by
  have hw : ∀ H, runQ wk tab slow K (d + 20) 6 [] H = some (.bool true, H) := fun H => rfl
  show ∃ H', f4 slow K (runQ wk tab slow K (d + 20)) va vb H = _
  obtain ⟨v, H1, h1, ho, f1, _, _⟩ := z_lay2 (H := H) (lo := H.size) (Nat.le_refl _) (.slice nilSl) (.slice nilSl) hva.flat hvb.flat
  simp only [f4, hw, z_call, z_not, Bool.not_true, z_guard, cond_false, h1]
  rcases beyond_ok K (by omega) (d + 19) H1 (Ts := [S, T]) ho.arr (by simp) rfl (fun i u T' hu hT => by
    match i with
    | 0 => simp at hu hT; subst hu hT; exact hva.fr f1
    | 1 => simp at hu hT; subst hu hT; exact hvb.fr f1
    | n + 2 => simp at hu) with h2 | ⟨hfew, h2⟩
  · rw [show d + 19 + 1 = d + 20 from rfl] at h2
    refine ⟨H1, ?_⟩
    simp only [h2, z_call, f4_j1, z_cond, cond_true, hw, z_rest_bool]
  · rw [show d + 19 + 1 = d + 20 from rfl] at h2
    have fa := hfew S (by simp)
    have fb := hfew T (by simp)
    obtain ⟨w1, r1, H2, h3, f2, m1, n1⟩ := read_ok K hK (d + 8) H1 (hva.fr f1) ca fa la
    rw [show d + 8 + 12 = d + 20 from rfl] at h3
    obtain ⟨w2, r2, H3, h4, f3, m2, n2⟩ := read_ok K hK (d + 8) H2 (hvb.fr (Frame.trans f1 f2)) cb fb lb
    rw [show d + 8 + 12 = d + 20 from rfl] at h4
    obtain ⟨H4, h5⟩ := reck_j3 K hK d H3 (m1.fr f3) m2 (n1.fr f3) n2 (parseM_good S) (parseM_good T)
    refine ⟨H4, ?_⟩
    simp only [h2, z_call, f4_j1, z_cond, cond_false, h3, h4, z_ext0, z_ext1, z_ext2, z_bst1, z_not, Bool.not_true, z_guard, h5]
end Go.Sh.Of

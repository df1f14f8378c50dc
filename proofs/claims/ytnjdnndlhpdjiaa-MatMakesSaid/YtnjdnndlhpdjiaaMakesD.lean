/- MatMakes: true, whatever the rows and the number. -/
import Derived.Test.YtnjdnndlhpdjiaaMakesC
set_option linter.unusedVariables false
set_option linter.unusedSimpArgs false
namespace Go.Sh.Of
open Go

theorem IsMatF.keep {lo : Nat} {H H' : Heap} {v : SV} {rows : List (List Int)} (h : IsMatF lo H v rows) {X : Nat → Prop} (hlo : ∀ r, X r → r < lo) (hX : ∀ r row, X r → H.get r = some row → ∀ c ∈ row.cells, ∀ n, c ≠ .int .u32 n) (hro : ∀ r, ¬ X r → r < H.size → H'.get r = H.get r) : IsMatF lo H' v rows := by
  obtain ⟨w, e, h0, ws, h1, h2, h3⟩ := h
  refine ⟨w, e, h0, ws, Arr.keepV h1 (fun r hr hx => ?_) hro, h2, fun i w zs hw hz => ⟨(h3 i w zs hw hz).1.keepU (fun r hr hx => ?_) hX hro, (h3 i w zs hw hz).2⟩⟩
  · have := h0 r hr; have := hlo r hx; omega
  · have := (h3 i w zs hw hz).2 r hr; have := hlo r hx; omega
theorem Mk.fr {lo : Nat} {H H' : Heap} {a b : SV} {ws us : List SV} {rows : List (List Int)} {i : Nat} {F : Nat → Nat} (h : Mk lo H a b ws us rows i F) (f : Frame H H') : Mk lo H' a b ws us rows i F :=
  { oa := h.oa.fr f, ob := h.ob.fr f, la := h.la, lb := h.lb, sa := h.sa, sb := h.sb, fa := h.fa, fb := h.fb, ga := h.ga, gb := h.gb
    ra := fun q w zs hw hz => (h.ra q w zs hw hz).fr f
    rb := fun q w zs hw hz => by
      obtain ⟨els, e1, e2, e3, e4⟩ := h.rb q w zs hw hz
      exact ⟨els, OwnS.fr e1 f, e2, e3, fun j e z he hz => (e4 j e z he hz).fr f⟩ }
theorem i64_small {z : Int} (h : I64 z) : z.natAbs < 2 ^ 4096 := by
  have h1 : z.natAbs < 2 ^ 64 := by
    obtain ⟨a, b⟩ := h
    show z.natAbs < 18446744073709551616
    omega
  exact Nat.lt_of_lt_of_le h1 (pow_mono2 64 4096 (by decide))
theorem same_of (K : Nat) (hK : 3000000 < K) (d : Nat) (H : Heap) {lo : Nat} {v w : SV} {rows : List (List Int)} (hv : IsMat H v (ofMat rows)) (hw : IsRRows lo H w (ofMat rows)) (hok : ∀ r ∈ rows, r.length ≤ 100) (hsm : ∀ r ∈ rows, ∀ z ∈ r, I64 z) (hrl : rows.length ≤ 100) :
    ∃ H', runQ wk tab slow K (d + 8) 9 [v, .int .i64 (ofErr rows), w, .int .i64 (ofErr rows)] H = some (.bool true, H') ∧ Frame H H' := by
  cases hsh : shapedB (rows.map List.length) with
  | false =>
    have e1 : ofErr rows = 5 := by unfold ofErr; rw [hsh]; rfl
    have e2 : ofMat rows = [] := by unfold ofMat; rw [hsh]; rfl
    rw [e2] at hv
    rw [e1]
    exact same_err K (by omega) (d + 3) H (by decide) hv
  | true =>
    have e1 : ofErr rows = 0 := by unfold ofErr; rw [hsh]; rfl
    have e2 : ofMat rows = rows := by unfold ofMat; rw [hsh]; rfl
    rw [e2] at hv hw
    rw [e1]
    exact same_mat K hK d H hv hw (fun r hr => ⟨hok r hr, fun z hz => i64_small (hsm r hr z hz)⟩) (by omega)
theorem idRows_big (n : Nat) (hn : n ≤ 16) : BigOk (idRows n) := fun r hr => by
  obtain ⟨i, _, rfl⟩ := List.mem_map.1 hr
  refine ⟨by rw [rowOfE_len]; omega, fun z hz => ?_⟩
  obtain ⟨j, _, rfl⟩ := List.mem_map.1 hz
  apply i64_small
  constructor <;> dsimp only <;> split <;> omega
/-- The last part: the identity. -/
theorem id_end (K : Nat) (hK : 3000000 < K) (d : Nat) (H : Heap) (n : Int) :
    ∃ H', f3_j21 slow K (runQ wk tab slow K (d + 20)) (.int .i64 n) (.bool false) H = some (.bool true, H') := by
  obtain ⟨r, H1, h1, f1, m1⟩ := ident_ok K (by omega) (d + 14) H (n := n)
  simp only [f3_j21, z_cond, cond_false, h1, z_call, z_ext0, z_ext1]
  have m1' := m1.mat
  obtain ⟨w, rfl, _⟩ := m1
  simp only [z_bst1, z_lss, z_gtr, z_guard]
  by_cases hn : n < 0 ∨ n > 16
  · rw [if_pos hn] at m1' ⊢
    obtain ⟨r2, H2, h2, f2, t2⟩ := mtext_ok K (by omega) (d + 16) H1 m1' (fun r hr => by cases hr) (by simp)
    have hl : ∀ k, slow.len r2 k = k (i64 0) := fun k => by rw [t2.len]; rfl
    have hj : f3_j23 slow K (runQ wk tab slow K (d + 20)) (.int .i64 n) (.box [w]) (.int .i64 5) (.bool true) H1 = some (.bool true, H2) := by
      simp only [f3_j23, z_cond, cond_true, z_eql, beq_self_eq_true, z_guard, z_lload1, h2, z_call, hl, f3_j24, z_rest_bool]
      rfl
    refine ⟨H2, ?_⟩
    by_cases h0 : n < 0
    · rw [decide_eq_true h0, cond_true]
      exact hj
    · rw [decide_eq_false h0, cond_false, decide_eq_true (show n > 16 by omega)]
      exact hj
  · rw [if_neg hn] at m1' ⊢
    obtain ⟨m, rfl⟩ : ∃ m : Nat, n = m := ⟨n.toNat, by omega⟩
    rw [decide_eq_false (show ¬ ((m : Int) < 0) by omega), cond_false, decide_eq_false (show ¬ ((m : Int) > 16) by omega)]
    obtain ⟨r2, H2, h2, f2, t2⟩ := rident_ok K (by omega) (d + 17) H1 (n := m) (by omega)
    have hl : (idRows m).length < 100000 := by simp [idRows, matOfE]; omega
    obtain ⟨H3, h3, _⟩ := same_mat K hK (d + 12) H2 (m1'.fr f2) t2 (idRows_big m (by omega)) hl
    refine ⟨H3, ?_⟩
    simp only [f3_j23, z_cond, cond_false, z_lload1, h2, z_call, h3, z_rest_bool]
theorem mk_end (K : Nat) (hK : 3000000 < K) (d : Nat) {H0 : Heap} {v : SV} {n : Int} {rows : List (List Int)} (hv : IsInts2 H0 v rows) (hsm : ∀ r ∈ rows, ∀ z ∈ r, I64 z) (hrl : rows.length ≤ 100) (H : Heap) (a b : SV) (ws us : List SV) (F : Nat → Nat) (fuel : Nat) (hfr : Frame H0 H) (hm : Mk H0.size H a b ws us rows rows.length F) (hok : ∀ r ∈ rows, r.length ≤ 100) :
    ∃ H', slow.loop6 (f3_l3 slow K (runQ wk tab slow K (d + 20))) (fuel + 1) v (.int .i64 n) a b (i64 rows.length) (i64 rows.length) H = some (.bool true, H') := by
  have ia : IsInts2 H a rows := ⟨ws, hm.oa.arr, by simp [hm.la], fun i w cs hw hc => by
    rw [List.getElem?_map, Option.map_eq_some_iff] at hc
    obtain ⟨zs, hz, rfl⟩ := hc
    exact (hm.ra i w zs hw hz).arr⟩
  have ib : IsRows H b rows := ⟨us, hm.ob.arr, hm.lb, fun i w zs hw hz => by
    obtain ⟨els, e1, e2, e3, e4⟩ := hm.rb i w zs hw hz
    exact ⟨els, OwnS.arr e1, e2, e4⟩⟩
  obtain ⟨r1, H1, h1, f1, m1⟩ := mof_ok K (by omega) (d + 14) H ia hsm (by omega)
  obtain ⟨r2, H2, h2, f2, m2⟩ := mmake_ok K (by omega) (d + 14) H1 (ib.fr f1) (by omega)
  obtain ⟨r3, H3, h3, f3, m3⟩ := rfrom_ok K (by omega) (d + 17) H2 (hv.fr (Frame.trans hfr (Frame.trans f1 f2))) hsm hok (by omega)
  have f13 := Frame.trans f1 (Frame.trans f2 f3)
  have hm3 := hm.fr f13
  have m1' := m1.fr (Frame.trans f2 f3)
  have m2' := (m2.fr f3).mono f1.size
  have m3' : IsRRows H.size H3 r3 (ofMat rows) := by
    obtain ⟨vs, g1, g2, g3, g4⟩ := m3
    have hle : H.size ≤ H2.size := (Frame.trans f1 f2).size
    exact ⟨vs, g1, g2, fun r hr => Nat.le_trans hle (g3 r hr), fun i w zs hw hz => ⟨(g4 i w zs hw hz).1, fun r hr => Nat.le_trans hle ((g4 i w zs hw hz).2 r hr)⟩⟩
  have e1 : ∃ w, r1 = .agg [w] := by obtain ⟨w, e, _⟩ := m1; exact ⟨w, e⟩
  have e2 : ∃ w, r2 = .agg [w] := by obtain ⟨w, e, _⟩ := m2; exact ⟨w, e⟩
  obtain ⟨w1, rfl⟩ := e1
  obtain ⟨w2, rfl⟩ := e2
  have hal : ∀ k, slow.len a k = k (i64 rows.length) := fun k => by rw [hm.oa.arr.len, hm.la]
  obtain ⟨H', h'⟩ := sp_out K (by omega) (d + 17) (n := .int .i64 n) hv (Frame.trans hfr f13) hm3 hok hrl (.box [w1]) (.int .i64 (ofErr rows)) (.box [w2]) (.int .i64 (ofErr rows)) r3 (.int .i64 (ofErr rows)) (fun H4 fuel4 hs => by
      have hlo : ∀ r, Xr ws us r → r < H.size := fun r hx => (Xr.ge hm hx).2.2.1
      have hX : ∀ r row, Xr ws us r → H3.get r = some row → ∀ c ∈ row.cells, ∀ n, c ≠ .int .u32 n := fun r row hx => (Xr.ge hm3 hx).2.2.2 row
      have k1 := m1'.keep hlo hX hs.keep
      have k2 := m2'.keep hlo hX hs.keep
      have k3 := m3'.keep hlo hX hs.keep
      obtain ⟨H5, h5, f5⟩ := same_of K hK (d + 12) H4 k1.mat k3 hok hsm hrl
      obtain ⟨H6, h6, f6⟩ := same_of K hK (d + 12) H5 (k2.fr f5).mat (k3.fr f5) hok hsm hrl
      obtain ⟨H7, h7⟩ := id_end K hK d H6 n
      refine ⟨H7, ?_⟩
      rw [z_loop12]
      have hlt : ¬ rows.length < rows.length := Nat.lt_irrefl _
      simp only [f3_l12, n_lss, decide_eq_false hlt, z_cond, cond_false, z_lload1, h5, h6, z_call, z_not, Bool.not_true, z_guard]
      exact h7) rows.length 0 K H3 (by omega) (by omega) ⟨Nat.le_refl _, fun _ _ _ => rfl, fun q w zs hw hz => ⟨_, hm3.ra q w zs hw hz, by simp, fun t z _ hz => by simp [intsL, hz]⟩, fun q w zs hw hz => by
        obtain ⟨els, e1, e2, _⟩ := hm3.rb q w zs hw hz
        exact ⟨els, e1, e2⟩⟩
  refine ⟨H', ?_⟩
  rw [z_loop6]
  have hlt : ¬ rows.length < rows.length := Nat.lt_irrefl _
  simp only [f3_l3, n_lss, decide_eq_false hlt, z_cond, cond_false, h1, z_call, z_ext0, z_ext1, z_bst1, h2, h3, hal]
  exact h'
theorem makes_ok (K : Nat) (hK : 3000000 < K) (d : Nat) (H : Heap) {v : SV} {n : Int} {rows : List (List Int)} (hv : IsInts2 H v rows) (hsm : ∀ r ∈ rows, ∀ z ∈ r, I64 z) :
    ∃ H', runQ wk tab slow K (d + 21) 3 [v, .int .i64 n] H = some (.bool true, H') := by
  have hw : ∀ H, runQ wk tab slow K (d + 20) 4 [] H = some (.bool true, H) := fun H => rfl
  have hlen : ∀ k, slow.len v k = k (i64 rows.length) := fun k => by rw [hv.len]; simp
  show ∃ H', f3 slow K (runQ wk tab slow K (d + 20)) v (.int .i64 n) H = _
  simp only [f3, hw, z_call, z_not, Bool.not_true, z_guard, cond_false, hlen]
  rw [show (SV.int .i64 100) = i64 100 from rfl, n_gtr]
  by_cases hb : rows.length > 100
  · rw [decide_eq_true hb]
    simp only [f3_j1, z_cond, cond_true, hw, z_call, z_rest_bool]
    exact ⟨H, rfl⟩
  · rw [decide_eq_false hb]
    simp only [f3_j1, z_cond, cond_false, hlen]
    exact mk_out K (by omega) d hv hsm (by omega) (fun H' a b ws us F fuel hfr hm hok => mk_end K hK d hv hsm (by omega) H' a b ws us F fuel hfr hm hok) rows.length 0 K H (.slice nilSl) (.slice nilSl) [] [] (fun _ => 0) (by omega) (by omega) (Fr.refl _ _) { oa := Own.nil _ _, ob := Own.nil _ _, la := rfl, lb := rfl, sa := (fun w hw => by cases hw), sb := (fun w hw => by cases hw), fa := (fun r hr => rfl), fb := (fun r hr => absurd hr (not_inRow_nil r)), ra := (fun q w zs hw => by simp at hw), rb := (fun q w zs hw => by simp at hw), ga := (fun q w hw => by simp at hw), gb := (fun q w hw => by simp at hw) } (fun q r hq => by omega)
end Go.Sh.Of

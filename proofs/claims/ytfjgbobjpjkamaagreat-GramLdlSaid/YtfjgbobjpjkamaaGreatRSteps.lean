/- Contract of the reference's steps: Bareiss's rule; of its Det. -/
import Derived.Test.YtfjgbobjpjkamaaGreatRWork
set_option linter.unusedVariables false
set_option linter.unusedSimpArgs false
namespace Go.Sh.Of
open Go
theorem relim_in (K : Nat) (hK : 3000000 < K) (d : Nat) {H0 : Heap} {v va vb mn lb ls : SV} {ws : List SV} {m : Mx} {last : Int} {rows cols r j i : Nat} (hrows : rows <= 16) (hcols : cols <= 16) (hb : BOk rows cols m last r j) (hr : r < i) (hi : i < rows) (hj : j < cols) (k82 : SV -> SV -> SV -> SV -> SV -> SV -> SV -> SV -> Heap -> Rs) : ∀ (n k fuel : Nat) (H : Heap), k + n = cols -> n < fuel -> j < k -> Frame H0 H -> RWork H0.size H v ws (partE m last r j i k) rows cols -> IsRZ H (.agg [lb, ls]) last ->
  ∃ H', slow.loop9 (f89_l18 slow K (runQ wk tab slow K (d + 5)) k82) fuel va vb v (.box [lb, ls]) mn (i64 r) (i64 j) (i64 i) (i64 k) H = k82 va vb v (.box [lb, ls]) mn (i64 r) (i64 j) (i64 (i + 1)) H' /\ Frame H0 H' /\ RWork H0.size H' v ws (partE m last r j (i + 1) (j + 1)) rows cols /\ IsRZ H' (.agg [lb, ls]) last
 | 0, k, fuel, H, hkn, hf, hjk, hfr, hw, hl => by
  obtain ⟨fuel, rfl⟩ : ∃ q, fuel = q + 1 := ⟨fuel - 1, by omega⟩
  have e : k = cols := by omega
  subst e
  have hlt : ¬ k < k := Nat.lt_irrefl k
  obtain ⟨wi, hwi⟩ : ∃ w, ws[i]? = some w := ⟨_, List.getElem?_eq_getElem (by rw [hw.len]; exact hi)⟩
  have hrl := (hw.row i wi hwi).len
  obtain ⟨H', st, W, f', _, hint⟩ := hw.store hwi hj (e := [.bool false, .slice nilSl]) (IsRZ.nil H)
  refine ⟨H', ?_, Fr.trans hfr f', W.congr fun x y hx hy => ?_, hint _ _ hl⟩
  ·rw [z_loop9]
   have hz : ∀ k, slow.build [.bool false, .slice nilSl] [] [] k = k (.agg [.bool false, .slice nilSl]) := fun k => z_build0 k _
   simp only [f89_l18, hw.out.arr.load hwi, hrl, n_lss, decide_eq_false hlt, z_cond, cond_false, hz, st, w_inc (show i < 1000000 by omega)]
  ·unfold updM partE
   by_cases a : x = i /\ y = j
   ·obtain ⟨rfl, rfl⟩ := a
    rw [if_pos ⟨rfl, rfl⟩, if_pos (show x < x + 1 by omega)]
    unfold elimM
    rw [if_pos hr, if_pos rfl]
   ·rw [if_neg a]
    by_cases b : x < i
    ·rw [if_pos b, if_pos (show x < i + 1 by omega)]
    ·rw [if_neg b]
     by_cases c : x = i
     ·subst c
      have hyj : y ≠ j := fun e => a ⟨rfl, e⟩
      rw [if_pos rfl, if_pos (show x < x + 1 by omega)]
      unfold elimM
      rw [if_pos hr, if_neg hyj]
      by_cases e : j < y
      ·rw [if_pos ⟨e, hy⟩, if_pos e]
      ·rw [if_neg (fun h => e h.1), if_neg e]
     ·rw [if_neg c, if_neg (show ¬ x < i + 1 by omega)]
      by_cases c' : x = i + 1
      ·rw [if_pos c', if_neg (show ¬ (j < y /\ y < j + 1) by omega), c']
      ·rw [if_neg c']
 | n + 1, k, fuel, H, hkn, hf, hjk, hfr, hw, hl => by
  obtain ⟨fuel, rfl⟩ : ∃ q, fuel = q + 1 := ⟨fuel - 1, by omega⟩
  have hk : k < cols := by omega
  have hrr : r < rows := by omega
  obtain ⟨wi, hwi⟩ : ∃ w, ws[i]? = some w := ⟨_, List.getElem?_eq_getElem (by rw [hw.len]; exact hi)⟩
  obtain ⟨wr, hwr⟩ : ∃ w, ws[r]? = some w := ⟨_, List.getElem?_eq_getElem (by rw [hw.len]; exact hrr)⟩
  have hrl := (hw.row i wi hwi).len
  obtain ⟨pi, pi1, pi2, pi3⟩ := Own.place hw.out hwi
  obtain ⟨pr, pr1, pr2, pr3⟩ := Own.place hw.out hwr
  have erj : partE m last r j i k r j = m r j := by unfold partE; rw [if_pos hr]; unfold elimM; rw [if_neg (Nat.lt_irrefl r)]
  have erk : partE m last r j i k r k = m r k := by unfold partE; rw [if_pos hr]; unfold elimM; rw [if_neg (Nat.lt_irrefl r)]
  have eij : partE m last r j i k i j = m i j := by unfold partE; rw [if_neg (Nat.lt_irrefl i), if_pos rfl, if_neg (by omega)]
  have eik : partE m last r j i k i k = m i k := by unfold partE; rw [if_neg (Nat.lt_irrefl i), if_pos rfl, if_neg (by omega)]
  have brj := rbig (hb.ent r j (Nat.le_refl _) hrr (Nat.le_refl _) hj)
  have brk := rbig (hb.ent r k (Nat.le_refl _) hrr (by omega) hk)
  have bij := rbig (hb.ent i j (by omega) hi (Nat.le_refl _) hj)
  have bik := rbig (hb.ent i k (by omega) hi (by omega) hk)
  have bp1 := rbig (hb.p1 i k hr hi hjk hk)
  have bp2 := rbig (hb.p2 i k hr hi hjk hk)
  have bdf := rbig (hb.df i k hr hi hjk hk)
  have bsl := rbig hb.sl
  obtain ⟨a1, a2, a3, a4⟩ := (hw.row r wr hwr).load hj
  obtain ⟨b1, b2, b3, b4⟩ := (hw.row i wi hwi).load hk
  rw [erj] at a4
  rw [eik] at b4
  obtain ⟨x, H1, h1, g1, n1⟩ := rzmul_ok K hK (d + 2) H a4 b4 (by omega) (by omega)
  rw [show d + 2 + 3 = d + 5 from rfl] at h1
  have hw1 := hw.fr g1
  obtain ⟨c1, c2, c3, c4⟩ := (hw1.row i wi hwi).load hj
  obtain ⟨d1, d2, d3, d4⟩ := (hw1.row r wr hwr).load hk
  rw [eij] at c4
  rw [erk] at d4
  obtain ⟨y, H2, h2, g2, n2⟩ := rzmul_ok K hK (d + 2) H1 c4 d4 (by omega) (by omega)
  rw [show d + 2 + 3 = d + 5 from rfl] at h2
  obtain ⟨ny, h3, n3⟩ := rzneg_ok K (d + 4) H2 n2
  rw [show d + 4 + 1 = d + 5 from rfl] at h3
  obtain ⟨z, H4, h4, g4, n4⟩ := rzadd_ok K hK (d + 2) H2 (n1.fr g2) n3 (by omega) (by rw [Int.natAbs_neg]; omega)
  rw [show d + 2 + 3 = d + 5 from rfl] at h4
  rw [<- Int.sub_eq_add_neg] at n4
  have hl4 := ((hl.fr g1).fr g2).fr g4
  obtain ⟨q, H5, h5, g5, n5⟩ := rexact_ok K hK d H4 n4 hl4 hb.nz (hb.dv i k hr hi hjk hk) (by omega) (by omega)
  have hw2 := hw1.fr g2
  have hw4 := hw2.fr g4
  have hw5 := hw4.fr g5
  have n5' := n5
  obtain ⟨q2, rfl, _⟩ := n5
  obtain ⟨H6, st, W, f6, _, hint⟩ := hw5.store hwi hk n5'
  have hW : RWork H0.size H6 v ws (partE m last r j i (k + 1)) rows cols := W.congr fun x' y' hx hy => by
   unfold updM partE
   by_cases a : x' = i /\ y' = k
   ·obtain ⟨rfl, rfl⟩ := a
    rw [if_pos ⟨rfl, rfl⟩, if_neg (Nat.lt_irrefl _), if_pos rfl, if_pos ⟨hjk, by omega⟩]
    rfl
   ·rw [if_neg a]
    by_cases b : x' < i
    ·rw [if_pos b, if_pos b]
    ·rw [if_neg b, if_neg b]
     by_cases c : x' = i
     ·subst c
      have hyk : y' ≠ k := fun e => a ⟨rfl, e⟩
      rw [if_pos rfl, if_pos rfl]
      by_cases e : j < y' /\ y' < k
      ·rw [if_pos e, if_pos ⟨e.1, by omega⟩]
      ·rw [if_neg e, if_neg (by omega)]
     ·rw [if_neg c, if_neg c]
  obtain ⟨H7, h7, g7⟩ := relim_in K hK d (va := va) (vb := vb) (mn := mn) hrows hcols hb hr hi hj k82 n (k + 1) fuel H6 (by omega) (by omega) (by omega) (Fr.trans (Frame.trans hfr (Frame.trans g1 (Frame.trans g2 (Frame.trans g4 g5)))) f6) hW (hint _ _ (hl4.fr g5))
  obtain ⟨x2, rfl, _⟩ := n1
  obtain ⟨y2, rfl, _⟩ := n2
  obtain ⟨ny2, rfl, _⟩ := n3
  obtain ⟨z2, rfl, _⟩ := n4
  refine ⟨H7, ?_, g7⟩
  rw [z_loop9]
  simp only [f89_l18, pr1, pi1, pr2 H hw.out, pi2 H hw.out, hrl, n_lss, decide_eq_true hk, z_cond, cond_true, a3, b3, h1, z_call, z_bst2, pr2 H1 hw1.out, pi2 H1 hw1.out, c3, d3, h2, pi2 H2 hw2.out, z_lload2, h3, h4, h5, st, pi3 H2 H2 _ hw2.out (Fr.refl _ _), pi3 H2 H4 _ hw2.out g4, pi3 H4 H5 _ hw4.out g5, w_inc (show k < 1000000 by omega)]
  exact h7
theorem relim_out (K : Nat) (hK : 3000000 < K) (d : Nat) {H0 : Heap} {v va vb mn lb ls : SV} {ws : List SV} {m : Mx} {last : Int} {rows cols r j : Nat} (hrows : rows <= 16) (hcols : cols <= 16) (hb : BOk rows cols m last r j) (hr : r < rows) (hj : j < cols) (k31 : SV -> SV -> SV -> SV -> SV -> SV -> SV -> Heap -> Rs) : ∀ (n i fuel : Nat) (H : Heap), i + n = rows -> n < fuel -> r < i -> Frame H0 H -> RWork H0.size H v ws (partE m last r j i (j + 1)) rows cols -> IsRZ H (.agg [lb, ls]) last ->
  ∃ H' lb' ls', slow.loop8 (f89_l16 slow K (runQ wk tab slow K (d + 5)) k31) fuel va vb v (.box [lb, ls]) mn (i64 r) (i64 j) (i64 i) H = f89_j13 slow K (runQ wk tab slow K (d + 5)) k31 va vb v (.box [lb', ls']) mn (i64 (r + 1)) (i64 j) H' /\ Frame H0 H' /\ RWork H0.size H' v ws (elimM m last r j) rows cols /\ IsRZ H' (.agg [lb', ls']) (m r j)
 | 0, i, fuel, H, hin, hf, hri, hfr, hw, hl => by
  obtain ⟨fuel, rfl⟩ : ∃ q, fuel = q + 1 := ⟨fuel - 1, by omega⟩
  have e : i = rows := by omega
  subst e
  have hlt : ¬ i < i := Nat.lt_irrefl i
  obtain ⟨w, x, y, hwr, l1, l2, l3⟩ := hw.load hr hj
  rw [part_all _ _ _ _ _ hr] at l3
  have em : elimM m last r j r j = m r j := by unfold elimM; rw [if_neg (Nat.lt_irrefl r)]
  rw [em] at l3
  refine ⟨H, x, y, ?_, hfr, hw.congr fun x' y' hx hy => part_all _ _ _ _ _ hx y', l3⟩
  rw [z_loop8]
  simp only [f89_l16, hw.size, n_lss, decide_eq_false hlt, z_cond, cond_false, l1, l2, z_bst2, w_inc (show r < 1000000 by omega)]
 | n + 1, i, fuel, H, hin, hf, hri, hfr, hw, hl => by
  obtain ⟨fuel, rfl⟩ : ∃ q, fuel = q + 1 := ⟨fuel - 1, by omega⟩
  have hi : i < rows := by omega
  obtain ⟨H1, h1, g1, w1, i1⟩ := relim_in K hK d (va := va) (vb := vb) (mn := mn) hrows hcols hb hri hi hj (slow.loop8 (f89_l16 slow K (runQ wk tab slow K (d + 5)) k31) fuel) (cols - (j + 1)) (j + 1) K H (by omega) (by omega) (by omega) hfr hw hl
  obtain ⟨H2, lb', ls', h2, g2⟩ := relim_out K hK d hrows hcols hb hr hj k31 n (i + 1) fuel H1 (by omega) (by omega) (by omega) g1 w1 i1
  refine ⟨H2, lb', ls', ?_, g2⟩
  rw [z_loop8]
  simp only [f89_l16, hw.size, n_lss, decide_eq_true hi, z_cond, cond_true, w_inc (show j < 1000000 by omega)]
  exact h1.trans h2
theorem rlen0 (z : Int) : decide ((((rdigs z.natAbs).length : Nat) : Int) = 0) = decide (z = 0) := by
 rw [decide_eq_decide]
 by_cases h : z = 0
 ·subst h
  have : rdigs (Int.natAbs 0) = [] := rdigs_zero
  rw [this]
  simp
 ·have : rdigs z.natAbs ≠ [] := fun e => h (Int.natAbs_eq_zero.1 (rdigs_nil.1 e))
  have := List.length_pos_iff.2 this
  constructor
  ·intro _; omega
  ·intro _; contradiction
theorem rlen0b (z : Int) : ((((rdigs z.natAbs).length : Nat) : Int) == 0) = decide (z = 0) := by
 rw [<- rlen0]
 rfl
theorem rpiv_loop (K : Nat) (d : Nat) {H : Heap} {v va vb lbx mn : SV} {ws : List SV} {m : Mx} {lo rows cols r j : Nat} (hrows : rows <= 16) (hw : RWork lo H v ws m rows cols) (hj : j < cols) (k31 : SV -> SV -> SV -> SV -> SV -> SV -> SV -> Heap -> Rs) : ∀ (n p fuel : Nat), p + n = rows -> n < fuel -> r <= p ->
  slow.loop8 (f89_l8 slow K (runQ wk tab slow K (d + 5)) k31) fuel va vb v lbx mn (i64 r) (i64 j) (i64 p) H = f89_j9 slow K (runQ wk tab slow K (d + 5)) k31 (fun _ _ _ _ _ _ _ _ _ => none) va vb v lbx mn (i64 r) (i64 j) (i64 (pivN m j p n)) (.bool false) H
 | 0, p, fuel, hpn, hf, hrp => by
  obtain ⟨fuel, rfl⟩ : ∃ q, fuel = q + 1 := ⟨fuel - 1, by omega⟩
  have hlt : ¬ p < rows := by omega
  rw [z_loop8]
  simp only [f89_l8, hw.size, n_lss, decide_eq_false hlt, z_guard, cond_false, f89_j9, z_cond, pivN]
 | n + 1, p, fuel, hpn, hf, hrp => by
  obtain ⟨fuel, rfl⟩ : ∃ q, fuel = q + 1 := ⟨fuel - 1, by omega⟩
  have hlt : p < rows := by omega
  obtain ⟨w, hww⟩ : ∃ w, ws[p]? = some w := ⟨_, List.getElem?_eq_getElem (by rw [hw.len]; exact hlt)⟩
  obtain ⟨y, l2, l3⟩ := (hw.row p w hww).load1 hj
  have l1 : ∀ k, slow.idx 1 v (i64 p) (fun q => slow.load 1 false q H k) = k w := fun k => hw.out.arr.load hww .i64 k
  have hl : ∀ k, slow.len y k = k (i64 (rdigs (m p j).natAbs).length) := rlen l3
  rw [z_loop8]
  simp only [f89_l8, hw.size, n_lss, decide_eq_true hlt, z_guard, cond_true, l1, l2, hl, z_eql, rlen0b]
  by_cases h0 : m p j = 0
  ·rw [decide_eq_true h0]
   unfold pivN
   rw [if_pos h0, <- rpiv_loop K d hrows hw hj k31 n (p + 1) fuel (by omega) (by omega) (by omega)]
   simp only [f89_j9, z_cond, cond_true, w_inc (show p < 1000000 by omega)]
  ·rw [decide_eq_false h0]
   unfold pivN
   rw [if_neg h0]
   simp only [f89_j9, z_cond, cond_false]
theorem rsteps_loop (K : Nat) (hK : 3000000 < K) (d : Nat) {H0 : Heap} {lo0 : Nat} {va v : SV} {R : List (List Int)} (hva : IsRRows lo0 H0 va R) {rows cols N X cc : Nat} (hcR : colsOf R = cols) (hrows : rows <= 16) (hcols : cols <= 16) : ∀ (n j fuel : Nat) (H : Heap) (ws : List SV) (lb ls : SV) (s : BSt) (A : Mx) (c : Nat -> Nat), j + n = cols -> n < fuel -> Frame H0 H -> RWork H0.size H v ws s.m rows cols -> IsRZ H (.agg [lb, ls]) s.last -> BInv rows cols A c j s -> Bd rows cols A N X cc ->
  ∃ y H', slow.loop7 (f89_l5 slow K (runQ wk tab slow K (d + 5))) fuel va (.box [.bool false, .slice nilSl]) v (.box [lb, ls]) (.bool s.sg) (i64 s.r) (i64 j) H = some (.tuple [i64 (brun rows n j s).r, y], H') /\ Frame H0 H' /\ IsRZ H' y (bval rows (brun rows n j s)) := fun n => by
 have hcol : ∀ H, Frame H0 H -> runQ wk tab slow K (d + 5) 111 [va] H = some (i64 cols, H) := fun H f => by
  have := rcols_ok K (d + 4) H (hva.fr f)
  rw [hcR] at this
  exact this
 have last : ∀ (H : Heap) (ws : List SV) (lb ls : SV) (s : BSt) (A : Mx) (c : Nat -> Nat) (j : Nat) (F : SV -> SV -> SV -> SV -> SV -> SV -> SV -> Heap -> Rs), Frame H0 H -> RWork H0.size H v ws s.m rows cols -> IsRZ H (.agg [lb, ls]) s.last -> ∃ y H', f89_j6 slow K (runQ wk tab slow K (d + 5)) F va (.box [.bool false, .slice nilSl]) v (.box [lb, ls]) (.bool s.sg) (i64 s.r) (i64 j) (.bool false) H = some (.tuple [i64 s.r, y], H') /\ Frame H0 H' /\ IsRZ H' y (bval rows s) := fun H ws lb ls s A c j F hfr hw hl => by
  have hz : ∀ k, slow.build [.bool false, .slice nilSl] [] [] k = k (.agg [.bool false, .slice nilSl]) := fun k => z_build0 k _
  by_cases h1 : s.r < rows
  ·refine ⟨.agg [.bool false, .slice nilSl], H, ?_, hfr, ?_⟩
   ·simp only [f89_j6, z_cond, cond_false, hw.size, n_lss, decide_eq_true h1, cond_true, hz, z_bst2, z_rest_int, z_resc2]
   ·unfold bval
    rw [if_pos h1]
    exact IsRZ.nil H
  ·cases hsg : s.sg with
   | true =>
    obtain ⟨y, h2, n2⟩ := rzneg_ok K (d + 4) H hl
    rw [show d + 4 + 1 = d + 5 from rfl] at h2
    have n2' := n2
    obtain ⟨y2, rfl, _⟩ := n2
    refine ⟨.agg [.bool (decide (-s.last < 0)), .slice y2], H, ?_, hfr, ?_⟩
    ·simp only [f89_j6, z_cond, cond_false, hw.size, n_lss, decide_eq_false h1, cond_true, z_lload2, h2, z_call, z_bst2, z_rest_int, z_resc2]
    ·unfold bval
     rw [if_neg h1, if_pos hsg]
     exact n2'
   | false =>
    refine ⟨.agg [lb, ls], H, ?_, hfr, ?_⟩
    ·simp only [f89_j6, z_cond, cond_false, hw.size, n_lss, decide_eq_false h1, z_lload2, z_bst2, z_rest_int, z_resc2]
    ·unfold bval
     rw [if_neg h1, if_neg (by rw [hsg]; decide)]
     exact hl
 induction n with
 | zero =>
  intro j fuel H ws lb ls s A c hjn hf hfr hw hl hI hb
  obtain ⟨fuel, rfl⟩ : ∃ q, fuel = q + 1 := ⟨fuel - 1, by omega⟩
  have hlt : ¬ j < cols := by omega
  obtain ⟨y, H', h1, g1⟩ := last H ws lb ls s A c j (slow.loop7 (f89_l5 slow K (runQ wk tab slow K (d + 5))) fuel) hfr hw hl
  refine ⟨y, H', ?_, g1⟩
  rw [z_loop7]
  simp only [f89_l5, hcol H hfr, z_call, n_lss, decide_eq_false hlt, z_guard, cond_false]
  exact h1
 | succ n ih =>
  intro j fuel H ws lb ls s A c hjn hf hfr hw hl hI hb
  obtain ⟨fuel, rfl⟩ : ∃ q, fuel = q + 1 := ⟨fuel - 1, by omega⟩
  have hj : j < cols := by omega
  rw [z_loop7]
  simp only [f89_l5, hcol H hfr, z_call, n_lss, decide_eq_true hj, z_guard, cond_true, hw.size]
  by_cases hr : s.r < rows
  ·have hpv := rpiv_loop K d (va := va) (vb := .box [.bool false, .slice nilSl]) (lbx := .box [lb, ls]) (mn := .bool s.sg) hrows hw hj (slow.loop7 (f89_l5 slow K (runQ wk tab slow K (d + 5))) fuel) (rows - s.r) s.r K (by omega) (by omega) (Nat.le_refl _)
   obtain ⟨p1, p2, p3, p4⟩ := pivN_spec s.m j (rows - s.r) s.r
   obtain ⟨A', c', hI', hb'⟩ := hI.col hb hr hj
   have hbr : brun rows (n + 1) j s = brun rows n (j + 1) (bcol rows j s) := by
    show (if s.r < rows then brun rows n (j + 1) (bcol rows j s) else s) = _
    rw [if_pos hr]
   rw [hbr]
   by_cases e : pivN s.m j s.r (rows - s.r) = rows
   ·have hbc : bcol rows j s = s := by unfold bcol; rw [if_pos e]
    rw [hbc] at hI' ⊢
    obtain ⟨y, H', h1, g1⟩ := ih (j + 1) fuel H ws lb ls s A' c' (by omega) (by omega) hfr hw hl hI' hb'
    refine ⟨y, H', ?_, g1⟩
    rw [e] at hpv
    simp only [decide_eq_true hr, f89_j6, z_cond, cond_true]
    rw [hpv]
    simp only [f89_j9, z_cond, cond_false, hw.size, n_eql, decide_eq_true (show rows = rows from rfl), cond_true, f89_j13, w_inc (show j < 1000000 by omega)]
    exact h1
   ·have hbc : bcol rows j s = ⟨s.r + 1, elimM (swM s.m (pivN s.m j s.r (rows - s.r)) s.r) s.last s.r j, s.m (pivN s.m j s.r (rows - s.r)) j, if pivN s.m j s.r (rows - s.r) = s.r then s.sg else !s.sg⟩ := by unfold bcol; rw [if_neg e]
    generalize pivN s.m j s.r (rows - s.r) = p at *
    have hp : p < rows := by omega
    have hIs := hI.swap p1 hp s.sg
    have hok : BOk rows cols (swM s.m p s.r) s.last s.r j := hIs.ok (hb.swap hp hr) hr hj
    have esw : swM s.m p s.r s.r j = s.m p j := by unfold swM; rw [if_pos rfl]
    have next : ∀ (H2 : Heap) (ws2 : List SV) (sg : Bool), Frame H0 H2 -> RWork H0.size H2 v ws2 (swM s.m p s.r) rows cols -> IsRZ H2 (.agg [lb, ls]) s.last -> sg = (if p = s.r then s.sg else !s.sg) -> ∃ y H', f89_j15 slow K (runQ wk tab slow K (d + 5)) (slow.loop7 (f89_l5 slow K (runQ wk tab slow K (d + 5))) fuel) va (.box [.bool false, .slice nilSl]) v (.box [lb, ls]) (.bool sg) (i64 s.r) (i64 j) H2 = some (.tuple [i64 (brun rows n (j + 1) (bcol rows j s)).r, y], H') /\ Frame H0 H' /\ IsRZ H' y (bval rows (brun rows n (j + 1) (bcol rows j s))) := fun H2 ws2 sg hf2 hw2 hl2 hsg => by
     obtain ⟨H3, lb', ls', h3, g3, w3, i3⟩ := relim_out K hK d (va := va) (vb := .box [.bool false, .slice nilSl]) (mn := .bool sg) hrows hcols hok hr hj (slow.loop7 (f89_l5 slow K (runQ wk tab slow K (d + 5))) fuel) (rows - (s.r + 1)) (s.r + 1) K H2 (by omega) (by omega) (by omega) hf2 (hw2.congr fun x y _ _ => (part_start _ _ _ _ _ _).symm) hl2
     rw [esw] at i3
     rw [hbc] at hI' ⊢
     obtain ⟨y, H4, h4, g4⟩ := ih (j + 1) fuel H3 ws2 lb' ls' _ A' c' (by omega) (by omega) g3 w3 i3 hI' hb'
     refine ⟨y, H4, ?_, g4⟩
     simp only [f89_j15, w_inc (show s.r < 1000000 by omega)]
     rw [h3]
     simp only [f89_j13, w_inc (show j < 1000000 by omega), hsg]
     exact h4
    simp only [decide_eq_true hr, f89_j6, z_cond, cond_true]
    by_cases epr : p = s.r
    ·obtain ⟨y, H', h1, g1⟩ := next H ws s.sg hfr (hw.congr fun x y _ _ => by rw [epr, swM_self]) hl (by rw [if_pos epr])
     refine ⟨y, H', ?_, g1⟩
     rw [hpv]
     have hd : decide (p ≠ s.r) = false := decide_eq_false fun h => h epr
     simp only [f89_j9, z_cond, cond_false, hw.size, n_eql, decide_eq_false e, n_neq, hd]
     exact h1
    ·obtain ⟨wr, hwr⟩ : ∃ w, ws[s.r]? = some w := ⟨_, List.getElem?_eq_getElem (by rw [hw.len]; exact hr)⟩
     obtain ⟨wp, hwp⟩ : ∃ w, ws[p]? = some w := ⟨_, List.getElem?_eq_getElem (by rw [hw.len]; exact hp)⟩
     obtain ⟨H1, H2, s1, s2, w2, f2, _, hint⟩ := hw.swap hwr hwp
     obtain ⟨y, H', h1, g1⟩ := next H2 _ (!s.sg) (Fr.trans hfr f2) w2 (hint _ _ hl) (by rw [if_neg epr])
     refine ⟨y, H', ?_, g1⟩
     rw [hpv]
     have hd : decide (p ≠ s.r) = true := decide_eq_true epr
     simp only [f89_j9, z_cond, cond_false, hw.size, n_eql, decide_eq_false e, n_neq, hd, cond_true, hw.out.arr.load hwr, hw.out.arr.load hwp, s1, s2, z_not]
     exact h1
  ·obtain ⟨y, H', h1, g1⟩ := last H ws lb ls s A c j (slow.loop7 (f89_l5 slow K (runQ wk tab slow K (d + 5))) fuel) hfr hw hl
   have hbr : brun rows (n + 1) j s = s := by
    show (if s.r < rows then brun rows n (j + 1) (bcol rows j s) else s) = _
    rw [if_neg hr]
   rw [hbr]
   refine ⟨y, H', ?_, g1⟩
   simp only [decide_eq_false hr]
   exact h1
theorem z_layS0 {H : Heap} {lo : Nat} (hl : lo <= H.size) (n : Nat) (hn : 0 < n) (hn' : n <= 1000) : ∃ v H', (∀ k, slow.hbuild n [] [] [] H k = k v H') /\ OwnS n lo H' v [] /\ Frame H H' := by
 refine ⟨.slice ⟨some (H.size, 0), 0, none, 0⟩, H.push (newRow n []), fun k => ?_, ⟨fun f hf => (by cases hf), some (H.size, 0), rfl, .inr ⟨H.size, 0, rfl, hl, by rw [Heap.get_push_self]; simp [newRow]⟩⟩, Fr.push (Nat.le_refl _) _⟩
 show (opE (.build n [] []) [] H).bind _ = _
 have h1 : Nat.beq ([] : List (Nat × Nat)).length ([] : List SV).length = true := rfl
 have h2 : Nat.ble 1 n = true := Nat.ble_eq_true_of_le hn
 have h3 : Nat.ble ([] : List SV).length 1000000 = true := rfl
 have h6 : ([] : List SV).length / n = 0 := Nat.zero_div n
 simp only [opE, h1, h2, h3, Bool.true_and, cond_true, List.zip_nil_right, h6]
 rfl
theorem rcopy_loop (K : Nat) (hK : 3000000 < K) (C : CallC) {H0 : Heap} {lo0 : Nat} {va bx : SV} {R : List (List Int)} (hva : IsRRows lo0 H0 va R) (hg : Good R) (hrows : R.length <= 16) : ∀ (n i fuel : Nat) (H : Heap) (m : SV) (ws : List SV), i + n = R.length -> n < fuel -> Frame H0 H -> RWork H0.size H m ws (ent R) i (colsOf R) ->
  ∃ m' ws' H', slow.loop4 (f89_l1 slow K C) fuel va bx m (i64 i) H = f89_l1 slow K C va bx m' (i64 R.length) H' (fun _ _ _ _ _ => none) /\ Frame H0 H' /\ RWork H0.size H' m' ws' (ent R) R.length (colsOf R)
 | 0, i, fuel, H, m, ws, hin, hf, hfr, hw => by
  obtain ⟨fuel, rfl⟩ : ∃ q, fuel = q + 1 := ⟨fuel - 1, by omega⟩
  have e : i = R.length := by omega
  subst e
  have hlen : ∀ k, slow.len va k = k (i64 R.length) := hva.len
  have hlt : ¬ R.length < R.length := Nat.lt_irrefl _
  refine ⟨m, ws, H, ?_, hfr, hw⟩
  rw [z_loop4]
  simp only [f89_l1, hlen, n_lss, decide_eq_false hlt, z_cond, cond_false]
 | n + 1, i, fuel, H, m, ws, hin, hf, hfr, hw => by
  obtain ⟨fuel, rfl⟩ : ∃ q, fuel = q + 1 := ⟨fuel - 1, by omega⟩
  have hi : i < R.length := by omega
  have hwl := hw.len
  have hws := hw.slices
  obtain ⟨r, hr⟩ : ∃ r, R[i]? = some r := ⟨_, List.getElem?_eq_getElem hi⟩
  have hrl := hg.rect r (List.mem_of_getElem? hr)
  have hrc := hg.c16
  obtain ⟨e0, H1, h1, o1, f1⟩ := z_layS0 (H := H) (Nat.le_refl _) 2 (by decide) (by decide)
  obtain ⟨u, hu, hz⟩ := (hva.fr (Frame.trans hfr f1)).load hr
  obtain ⟨els, a1, a2, a3⟩ := hz
  obtain ⟨row, H2, h2, o2, f2, hro2, _⟩ := o1.append (by decide) f1.size a1.arr (by_ := 32) (roomy_small (by simp; omega))
  rw [List.nil_append] at o2
  have hz2 : RZRow H.size H2 row (ent R i) (colsOf R) := ⟨els, o2, by omega, fun e he => by
   obtain ⟨q, hq⟩ := List.getElem?_of_mem he
   obtain ⟨z, hzz⟩ : ∃ z, r[q]? = some z := ⟨_, List.getElem?_eq_getElem (by have := (List.getElem?_eq_some_iff.1 hq).1; omega)⟩
   exact (a3 q e z hq hzz).cell, fun q e hq => by
   obtain ⟨z, hzz⟩ : ∃ z, r[q]? = some z := ⟨_, List.getElem?_eq_getElem (by have := (List.getElem?_eq_some_iff.1 hq).1; omega)⟩
   rw [ent_get hr hzz]
   exact (a3 q e z hq hzz).keepI (X := fun r => inRow e0 r) (fun x rw' hx hg => by
    rw [OwnS.cells o1 hx hg]
    intro c hc
    cases hc) hro2⟩
  have hw2 := hw.fr (Fr.trans f1 f2)
  obtain ⟨m', H3, h3, o3, f3, hro3⟩ := push1 hw2.out (Nat.le_trans hfr.size (Nat.le_trans f1.size f2.size)) (.slice nilSl) (x := row) o2.arr.flat (by_ := 24) (roomy_small (by omega))
  have hX : ∀ r row', inRow m r -> H2.get r = some row' -> ∀ c ∈ row'.cells, ∀ kd n, c ≠ .int kd n := fun r row' hr hg c hc => by
   rw [Own.cells hw2.out hr hg] at hc
   exact isSlice_not_int (hws c hc)
  have cases_q : ∀ (q : Nat) w, (ws ++ [row])[q]? = some w -> (q < i /\ ws[q]? = some w) \/ (q = i /\ w = row) := fun q w hq => by
   by_cases hqw : q < ws.length
   ·rw [List.getElem?_append_left hqw] at hq
    exact .inl ⟨by omega, hq⟩
   ·have hq2 : q = ws.length := by have := (List.getElem?_eq_some_iff.1 hq).1; simp at this; omega
    subst hq2
    simp at hq
    exact .inr ⟨by omega, hq.symm⟩
  have hz3 : RZRow H.size H3 row (ent R i) (colsOf R) := hz2.keep hX hro3 fun r hr hl => ownS_apart hw2.out o2 hl hr
  obtain ⟨els3, os3, l3, c3, i3⟩ := hz3
  have hW : RWork H0.size H3 m' (ws ++ [row]) (ent R) (i + 1) (colsOf R) := by
   refine ⟨o3, by simp [hwl], fun q w hq => ?_, fun q q' w w' r hq hq' hr hr' => ?_⟩
   ·rcases cases_q q w hq with ⟨a, hq⟩ | ⟨rfl, rfl⟩
    ·obtain ⟨ei, oi, _⟩ := hw2.row q w hq
     exact (hw2.row q w hq).keep hX hro3 fun r hr hl => ownS_apart hw2.out oi hl hr
    ·exact ⟨els3, OwnS.mono2 os3 hfr.size, l3, c3, i3⟩
   ·rcases cases_q q w hq with ⟨a, b1⟩ | ⟨a, rfl⟩ <;> rcases cases_q q' w' hq' with ⟨a', b2⟩ | ⟨a', rfl⟩
    ·exact hw.dis q q' w w' r b1 b2 hr hr'
    ·obtain ⟨ei, oi, _⟩ := hw.row q w b1
     have h3 := (OwnS.bd oi hr).2
     have h4 := (OwnS.bd os3 hr').1
     omega
    ·obtain ⟨ei, oi, _⟩ := hw.row q' w' b2
     have h3 := (OwnS.bd oi hr').2
     have h4 := (OwnS.bd os3 hr).1
     omega
    ·omega
  obtain ⟨m3, ws3, H4, h4, g4⟩ := rcopy_loop K hK C hva hg hrows n (i + 1) fuel H3 m' (ws ++ [row]) (by omega) (by omega) (Fr.trans (Frame.trans hfr (Fr.trans f1 f2)) f3) hW
  refine ⟨m3, ws3, H4, Eq.trans ?_ h4, g4⟩
  rw [z_loop4]
  have hu' : ∀ k, slow.idx 1 va (i64 i) (fun p => slow.load 1 false p H1 k) = k u := fun k => hu .i64 k
  have hlen : ∀ k, slow.len va k = k (i64 R.length) := hva.len
  simp only [f89_l1, hlen, n_lss, decide_eq_true hi, z_cond, cond_true, h1, hu', h2, h3, w_inc (show i < 1000000 by omega)]
theorem rsteps_run (K d : Nat) (H : Heap) (v : SV) : runQ wk tab slow K (d + 6) 89 [v] H = f89 slow K (runQ wk tab slow K (d + 5)) v H := Eq.trans rfl rfl
theorem rsteps_ok (K : Nat) (hK : 3000000 < K) (d : Nat) (H : Heap) {lo : Nat} {a : SV} {R : List (List Int)} (ha : IsRRows lo H a R) (hg : Good R) {N X cc : Nat} (hb : Bd R.length (colsOf R) (ent R) N X cc) :
  ∃ y H', runQ wk tab slow K (d + 6) 89 [a] H = some (.tuple [i64 (brun R.length (colsOf R) 0 (bstart (ent R))).r, y], H') /\ Frame H H' /\ IsRZ H' y (bval R.length (brun R.length (colsOf R) 0 (bstart (ent R)))) := by
 have hrows := hg.rows
 have hcols := hg.c16
 obtain ⟨m, ws, H1, h1, g1, w1⟩ := rcopy_loop K hK (runQ wk tab slow K (d + 5)) (bx := .box [.bool false, .slice nilSl]) ha hg hrows R.length 0 K H (.slice nilSl) [] (by omega) (by omega) (Fr.refl _ _) ⟨Own.nil _ _, rfl, fun i w hw => by simp at hw, fun i j w w' r hw => by simp at hw⟩
 obtain ⟨o, H2, h2, g2, n2⟩ := rzof_ok K (by omega) (d + 3) H1 (z := 1) (by decide) (by decide)
 have n2' := n2
 obtain ⟨ol, rfl, _⟩ := n2
 obtain ⟨y, H3, h3, g3, n3⟩ := rsteps_loop K hK d (H0 := H) ha rfl hrows hcols (colsOf R) 0 K H2 ws _ _ (bstart (ent R)) (ent R) (fun _ => 0) (by omega) (by omega) (Frame.trans g1 g2) (w1.fr g2) n2' (BInv.start _ _ _) hb
 refine ⟨y, H3, ?_, g3, n3⟩
 have hlen : ∀ k, slow.len a k = k (i64 R.length) := ha.len
 have hlt : ¬ R.length < R.length := Nat.lt_irrefl _
 rw [rsteps_run]
 simp only [f89]
 rw [show (SV.int .i64 0) = i64 0 from rfl, h1]
 simp only [f89_l1, hlen, n_lss, decide_eq_false hlt, z_cond, cond_false, h2, z_call, z_bst2]
 exact h3
theorem rdet_run (K d : Nat) (H : Heap) (v : SV) : runQ wk tab slow K (d + 7) 60 [v] H = f60 slow K (runQ wk tab slow K (d + 6)) v H := Eq.trans rfl rfl
theorem rdet_ok (K : Nat) (hK : 3000000 < K) (d : Nat) (H : Heap) {lo : Nat} {a : SV} {R : List (List Int)} (ha : IsRRows lo H a R) (hg : Good R) (hsq : R.length = colsOf R) {N X cc : Nat} (hb : Bd R.length (colsOf R) (ent R) N X cc) :
  ∃ y H', runQ wk tab slow K (d + 7) 60 [a] H = some (y, H') /\ Frame H H' /\ IsRZ H' y (det R.length (ent R)) := by
 obtain ⟨y, H1, h1, f1, n1⟩ := rsteps_ok K hK d H ha hg hb
 have e := detR_det' hsq
 unfold detR at e
 rw [e] at n1
 have n1' := n1
 obtain ⟨s, rfl, _⟩ := n1
 refine ⟨_, H1, ?_, f1, n1'⟩
 rw [rdet_run]
 simp only [f60, h1, z_call, z_ext0, z_ext1, z_bst2, z_lload2, z_resc2]
end Go.Sh.Of

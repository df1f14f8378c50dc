/- Contracts of the reference's without, Adjoint, Inverse, Unit, Rank. -/
import Derived.Test.YtfmdgondhgdieaaGreatRCut
import Derived.Test.YtfmdgondhgdieaaGreatAdjM
set_option linter.unusedVariables false
set_option linter.unusedSimpArgs false
namespace Go.Sh.Of
open Go Go.Sh
theorem rrank_run (K d : Nat) (H : Heap) (v : SV) : runQ wk tab slow K (d + 7) 12 [v] H = f12 slow K (runQ wk tab slow K (d + 6)) v H := Eq.trans rfl rfl
theorem rrank_ok (K : Nat) (hK : 3000000 < K) (d : Nat) (H : Heap) {lo : Nat} {a : SV} {R : List (List Int)} (ha : IsRRows lo H a R) (hg : Good R) (hw : wideB R = false) :
  ∃ H', runQ wk tab slow K (d + 7) 12 [a] H = some (i64 (rankV R), H') /\ Frame H H' := by
 obtain ⟨y, H1, h1, f1, n1⟩ := rsteps_ok K hK d H ha hg (wide_bd hw)
 obtain ⟨s, rfl, _⟩ := n1
 refine ⟨H1, ?_, f1⟩
 rw [rrank_run]
 unfold rankV
 rw [hw]
 simp only [f12, h1, z_call, z_ext0, z_ext1, z_bst2, z_rest_int]
 rfl
theorem rdigs_one : rdigs 1 = [1] := by
 rw [rdigs_pos (by decide)]
 rw [show 1 / D = 0 from rfl, rdigs_zero]
 rfl
theorem runit_ok (K : Nat) (d : Nat) (H : Heap) {v : SV} {z : Int} (hv : IsRZ H v z) : runQ wk tab slow K (d + 1) 19 [v] H = some (.bool (decide (z.natAbs = 1)), H) := by
 obtain ⟨s, rfl, hs⟩ := hv
 have hl : ∀ k, slow.len (.slice s) k = k (i64 (rdigs z.natAbs).length) := rlen hs
 show f19 slow K (runQ wk tab slow K d) (.agg [.bool (decide (z < 0)), .slice s]) H = _
 have g1 : ∀ k, slow.eql (i64 (rdigs z.natAbs).length) (.int .i64 1) k = k (.bool (decide ((rdigs z.natAbs).length = 1))) := fun k => n_eql k .i64 _ 1
 simp only [f19, z_bbox, z_lfld, z_lld1, hl, g1]
 by_cases h1 : (rdigs z.natAbs).length = 1
 ·obtain ⟨q, hq⟩ : ∃ q, rdigs z.natAbs = [q] := by
   cases hr : rdigs z.natAbs with
   | nil => rw [hr] at h1; simp at h1
   | cons a l =>
    rw [hr] at h1
    have : l = [] := List.length_eq_zero_iff.1 (by simpa using h1)
    subst this
    exact ⟨a, rfl⟩
  have hld : ∀ k, slow.idx 1 (.slice s) (i64 0) (fun p => slow.load 1 false p H k) = k (u32 q) := fun k => hs.load (by rw [hq]; rfl) .i64 k
  have hv : z.natAbs = q := by
   have := rval_digs z.natAbs
   rw [hq] at this
   simpa [rval] using this.symm
  have g2 : ∀ k, slow.eql (u32 q) (.int .u32 1) k = k (.bool (decide (q = 1))) := fun k => n_eql k .u32 _ 1
  rw [decide_eq_true h1]
  simp only [z_guard, cond_true]
  rw [show (SV.int .i64 0) = i64 0 from rfl]
  simp only [hld, g2, f19_j1, z_rest_bool, hv]
 ·have hn : ¬ z.natAbs = 1 := fun h => h1 (by rw [h, rdigs_one]; rfl)
  rw [decide_eq_false h1, decide_eq_false hn]
  simp only [z_guard, cond_false, f19_j1, z_rest_bool]
theorem skip_lt1 {j n y : Nat} (h : y < n) : skip j y < n + 1 := by
 unfold skip
 split <;> omega
theorem min_row {R : List (List Int)} {n i j x : Nat} (hg : Good R) (hn : R.length = n + 1) (hc : colsOf R = n + 1) (hi : i < n + 1) (hx : x < n + 1) {zs : List Int} (hz : R[x]? = some zs) : dropI zs i = (List.range n).map fun y => ent R x (skip i y) := by
 have hl := hg.rect zs (List.mem_of_getElem? hz)
 apply List.ext_getElem?
 intro y
 rw [dropI_get (by omega)]
 by_cases hy : y < n
 ·have hs := skip_lt1 (j := i) hy
  obtain ⟨z, hzz⟩ : ∃ z, zs[skip i y]? = some z := ⟨_, List.getElem?_eq_getElem (by omega)⟩
  rw [hzz, List.getElem?_map, List.getElem?_range hy, Option.map_some, ent_get hz hzz]
 ·have : n <= skip i y - 1 /\ 1 <= skip i y := by
   unfold skip
   split <;> omega
  rw [List.getElem?_eq_none (by omega), List.getElem?_eq_none (by simp; omega)]
def ahead (j x : Nat) : Nat := if x <= j then x else x - 1
theorem without_loop (K : Nat) (hK : 3000000 < K) (C : CallC) {H0 : Heap} {lo0 : Nat} {va : SV} {R : List (List Int)} {n i j : Nat} (hva : IsRRows lo0 H0 va R) (hg : Good R) (hn : R.length = n + 1) (hc : colsOf R = n + 1) (hi : i < n + 1) (hj : j < n + 1) : ∀ (m x fuel : Nat) (H : Heap) (out : SV), x + m = n + 1 -> m < fuel -> Frame H0 H -> ROut H0.size H out ((List.range (ahead j x)).map fun x => (List.range n).map (minor2 (ent R) j i x)) ->
  ∃ v H', slow.loop5 (f50_l1 slow K C) fuel va (i64 j) (i64 i) out (i64 x) H = some (v, H') /\ Frame H0 H' /\ IsRRows H0.size H' v (matOfE (minor2 (ent R) j i) n n)
 | 0, x, fuel, H, out, hxm, hf, hfr, ho => by
  obtain ⟨fuel, rfl⟩ : ∃ q, fuel = q + 1 := ⟨fuel - 1, by omega⟩
  have e : x = n + 1 := by omega
  subst e
  have hlt : ¬ n + 1 < n + 1 := Nat.lt_irrefl _
  have ea : ahead j (n + 1) = n := by unfold ahead; rw [if_neg (by omega)]; omega
  rw [ea] at ho
  have hlen : ∀ k, slow.len va k = k (i64 (n + 1)) := fun k => by rw [(hva.fr hfr).len, hn]
  refine ⟨out, H, ?_, hfr, ho.rrows⟩
  rw [z_loop5]
  simp only [f50_l1, hlen, n_lss, decide_eq_false hlt, z_cond, cond_false, z_rest ho.good]
 | m + 1, x, fuel, H, out, hxm, hf, hfr, ho => by
  obtain ⟨fuel, rfl⟩ : ∃ q, fuel = q + 1 := ⟨fuel - 1, by omega⟩
  have hlt : x < n + 1 := by omega
  have h16 := hg.rows
  have hlen : ∀ k, slow.len va k = k (i64 (n + 1)) := fun k => by rw [(hva.fr hfr).len, hn]
  have hll : ∀ k, slow.lss (i64 x) (i64 (n + 1)) k = k (.bool true) := fun k => by rw [n_lss, decide_eq_true hlt]
  by_cases hxj : x = j
  ·subst hxj
   have ea : ahead x (x + 1) = ahead x x := by unfold ahead; rw [if_neg (by omega), if_pos (Nat.le_refl _)]; omega
   obtain ⟨v, H', h1, g1⟩ := without_loop K hK C hva hg hn hc hi hj m (x + 1) fuel H out (by omega) (by omega) hfr (by rw [ea]; exact ho)
   refine ⟨v, H', ?_, g1⟩
   rw [z_loop5]
   simp only [f50_l1, hlen, hll, z_cond, cond_true, n_eql, decide_eq_true (show x = x from rfl), f50_j3, w_inc (show x < 1000000 by omega)]
   exact h1
  ·obtain ⟨zs, hz⟩ : ∃ zs, R[x]? = some zs := ⟨_, List.getElem?_eq_getElem (by omega)⟩
   have hzl := hg.rect zs (List.mem_of_getElem? hz)
   obtain ⟨u, l1, hu⟩ := (hva.fr hfr).load hz
   obtain ⟨c1, t1, H1, g1, p1, f1, c2, t2, H2, g2, p2, f2, r2⟩ := row_without hu (i := i) (by omega) (by omega)
   have l1' : ∀ k', slow.idx 1 va (i64 x) (fun p => slow.load 1 false p H k') = k' u := fun k' => l1 .i64 k'
   have l2' : ∀ k', slow.idx 1 va (i64 x) (fun p => slow.load 1 false p H1 k') = k' u := fun k' => by
    obtain ⟨u', q1, _⟩ := (hva.fr (Frame.trans hfr f1)).load hz
    have e1 := hva_same hva hfr f1 hz l1 q1
    rw [e1]
    exact q1 .i64 k'
   rw [min_row (j := j) hg hn hc hi hlt hz] at r2
   obtain ⟨out', H3, h3, o3, f3⟩ := ho.push hfr.size (Fr.trans f1 f2) r2 (by simp [ahead]; split <;> omega)
   have ea : ahead j (x + 1) = ahead j x + 1 /\ skip j (ahead j x) = x := by
    unfold ahead skip
    by_cases h : x <= j
    ·rw [if_pos (by omega), if_pos h, if_pos (by omega)]
     exact ⟨rfl, rfl⟩
    ·rw [if_neg (by omega), if_neg h, if_neg (by omega)]
     omega
   have eS : ((List.range (ahead j x)).map fun x => (List.range n).map (minor2 (ent R) j i x)) ++ [(List.range n).map fun y => ent R x (skip i y)] = (List.range (ahead j (x + 1))).map fun x => (List.range n).map (minor2 (ent R) j i x) := by
    rw [ea.1, List.range_succ, List.map_append]
    congr 1
    show [_] = [(List.range n).map (minor2 (ent R) j i (ahead j x))]
    unfold minor2
    rw [ea.2]
   rw [eS] at o3
   obtain ⟨v, H', h4, g4⟩ := without_loop K hK C hva hg hn hc hi hj m (x + 1) fuel H3 out' (by omega) (by omega) (Fr.trans hfr f3) o3
   refine ⟨v, H', ?_, g4⟩
   rw [z_loop5]
   simp only [f50_l1, hlen, hll, z_cond, cond_true, n_eql, decide_eq_false hxj, cond_false, l1', g1, p1, l2', w_inc (show i < 1000000 by omega), g2, p2, h3, f50_j3, w_inc (show x < 1000000 by omega)]
   exact h4
where
 hva_same {H0 H H1 : Heap} {lo0 : Nat} {va : SV} {R : List (List Int)} {x : Nat} {zs : List Int} {u u' : SV} (hva : IsRRows lo0 H0 va R) (hfr : Frame H0 H) (f1 : Frame H H1) (hz : R[x]? = some zs) (q : ∀ kd k, slow.idx 1 va (.int kd x) (fun p => slow.load 1 false p H k) = k u) (q' : ∀ kd k, slow.idx 1 va (.int kd x) (fun p => slow.load 1 false p H1 k) = k u') : u = u' := by
  obtain ⟨ws, a1, a2, _, _⟩ := hva.fr hfr
  obtain ⟨w, hw⟩ : ∃ w, ws[x]? = some w := ⟨_, List.getElem?_eq_getElem (by have := (List.getElem?_eq_some_iff.1 hz).1; omega)⟩
  have b1 := a1.load hw .i64 (fun v => some (v, H))
  have b2 := (a1.fr f1).load hw .i64 (fun v => some (v, H))
  rw [q .i64] at b1
  rw [q' .i64] at b2
  cases b1
  cases b2
  rfl
theorem rwithout_ok (K : Nat) (hK : 3000000 < K) (d : Nat) (H : Heap) {lo0 : Nat} {va : SV} {R : List (List Int)} {n i j : Nat} (hva : IsRRows lo0 H va R) (hg : Good R) (hn : R.length = n + 1) (hc : colsOf R = n + 1) (hi : i < n + 1) (hj : j < n + 1) :
  ∃ v H', runQ wk tab slow K (d + 1) 50 [va, i64 j, i64 i] H = some (v, H') /\ Frame H H' /\ IsRRows H.size H' v (matOfE (minor2 (ent R) j i) n n) := by
 have h16 := hg.rows
 have e0 : ahead j 0 = 0 := by unfold ahead; rw [if_pos (Nat.zero_le _)]
 exact without_loop K hK (runQ wk tab slow K d) hva hg hn hc hi hj (n + 1) 0 K H (.slice nilSl) (by omega) (by omega) (Fr.refl _ _) (by rw [e0]; exact ROut.nil _ _)
end Go.Sh.Of

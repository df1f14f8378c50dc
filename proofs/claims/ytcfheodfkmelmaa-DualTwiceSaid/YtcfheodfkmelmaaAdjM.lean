/- Bareiss's rule tells the rank: how great a minor is not 0. Plain words. Contracts of mat.Rank, Adjoint, Inverse. -/
import Derived.Test.YtcfheodfkmelmaaDetG
import Derived.Test.YtcfheodfkmelmaaChk
set_option linter.unusedVariables false
set_option linter.unusedSimpArgs false
namespace Go.Sh.Of
open Go
end Go.Sh.Of
namespace Go.Sh.Of
open Go
theorem Good.c16r {R : List (List Int)} (hg : Good R) : ∀ r ∈ R, r.length <= 16 := fun r hr => by
 have h0 : R ≠ [] := fun e => by rw [e] at hr; cases hr
 have := hg.rect r hr
 have := (hg.cols h0).2
 omega
theorem sameN (p : SV) (H : Heap) (t : Rs) : slow.same p H H t = t := by
 show (bif sameRow p H H then t else none) = t
 unfold sameRow
 cases rowOf p with
 | none => rfl
 | some r => simp only [verEq_same, cond_true]
theorem skip_run (K d : Nat) (H : Heap) {i k : Nat} (hi : i < 1000) : runQ wk tab slow K (d + 1) 58 [i64 i, i64 k] H = some (i64 (skip k i), H) := by
 show f58 slow K (runQ wk tab slow K d) (i64 i) (i64 k) H = _
 unfold skip
 by_cases h : i >= k
 ·simp only [f58, n_geq, decide_eq_true h, z_cond, cond_true, w_inc (show i < 1000000 by omega), z_rest_int]
  rw [if_neg (by omega)]
 ·simp only [f58, n_geq, decide_eq_false h, z_cond, cond_false, z_rest_int]
  rw [if_pos (by omega)]
theorem z_allocF (f : Nat) (H : Heap) : ∃ p H' H'', (∀ k, slow.alloc [.nilf] H k = k p H') /\ (∀ k, slow.store 1 p (.fn f [] []) H' k = k H'') /\ Frame H H'' /\ Holds H'' p (.fn f [] []) /\ p.good = true := by
 have hv : (H.push (newRow 1 [.nilf])).get H.size = some ⟨2, 1, 0, [.nilf]⟩ := Heap.get_push_self _ _
 have hs : (H.push (newRow 1 [.nilf])).size = H.size + 1 := by simp [Heap.size_push]
 refine ⟨.ptr (H.size, 0), H.push (newRow 1 [.nilf]), (H.push (newRow 1 [.nilf])).set H.size ⟨2, 1, 0 + 1, [.fn f [] []]⟩, fun k => rfl, fun k => ?_, ⟨?_, fun r hr => ?_⟩, ⟨H.size, _, rfl, Heap.get_set_self hv _, (by simp), rfl⟩, rfl⟩
 ·show (opE (.store 1) [.ptr (H.size, 0), .fn f [] []] (H.push (newRow 1 [.nilf]))).bind _ = _
  have hb1 : Nat.beq ([SV.fn f [] []] : List SV).length 1 = true := rfl
  have hb2 : Nat.beq 2 2 = true := rfl
  simp only [opE, SV.item, SV.cells, SV.flat, hb1, Bool.true_and, Bool.and_true, cond_true, Heap.write, hv, hb2, splice_one (cs := [SV.nilf]) (i := 0) (by simp) (.fn f [] []), Option.map_some, Option.bind_some, List.set_cons_zero]
 ·show H.size <= (H.push (newRow 1 [.nilf])).size
  omega
 ·rw [Heap.get_set_ne _ (by omega), Heap.get_push_ne _ _ (by omega)]
def minE (R : List (List Int)) (i j : Nat) : Nat -> Nat -> Int := fun x y => ent R (skip j x) (skip i y)
theorem min_entry (K : Nat) (d : Nat) {H0 : Heap} {pa pk pj pi w : SV} {R : List (List Int)} {n i j : Nat} (hn : R.length = n + 1) (hc : colsOf R = n + 1) (hg : Good R) (hpa : Holds H0 pa w) (hw : IsRows H0 w R) (hpk : Holds H0 pk (.fn 58 [] [])) (hpj : Holds H0 pj (i64 j)) (hpi : Holds H0 pi (i64 i)) (hi : i < n + 1) (hj : j < n + 1) : EntryOk (runQ wk tab slow K (d + 2)) 60 [pa, pk, pj, pi] H0 n n (minE R i j) := fun x y H hx hy hf => by
 have h16 := hg.rows
 obtain ⟨u, p, q, h1, h2, h3⟩ := (hw.fr hf).entry hg (i := skip j x) (j := skip i y) (by rw [hn]; exact skip_lt hx) (by rw [hc]; exact skip_lt hy)
 have s1 := skip_run K d H (i := x) (k := j) (by omega)
 have s2 := skip_run K d H (i := y) (k := i) (by omega)
 show ∃ r H'', f60 slow K (runQ wk tab slow K (d + 1)) (i64 x) (i64 y) pa pk pj pi H = _ /\ _
 refine ⟨.agg [p, q], H, ?_, Fr.refl _ _, h3⟩
 simp only [f60, Holds.fld (hpa.fr hf), (hpa.fr hf).load, (hpk.fr hf).load, (hpj.fr hf).load, (hpi.fr hf).load, z_callv, List.nil_append, List.append_nil, s1, s2, z_call, sameN]
 simp only [h1, h2, z_bst2, z_resc2]
def adjE (R : List (List Int)) (i j : Nat) : Int := alt (i + j) * det (R.length - 1) (minor2 (ent R) j i)
def adjR (R : List (List Int)) : List (List Int) := matOfE (adjE R) R.length R.length
theorem sq_of {R : List (List Int)} (h : sqE R = 0) : wideB R = false /\ R.length = colsOf R := by
 unfold sqE at h
 split at h
 ·cases h
 ·rename_i h2
  cases hb : wideB R with
  | true => rw [hb] at h; cases h
  | false => exact ⟨rfl, Decidable.byContradiction fun h3 => h2 h3⟩
theorem sq_bd {R : List (List Int)} (h : sqE R = 0) : ∃ X cc, Bd R.length R.length (ent R) R.length X cc := by
 obtain ⟨h1, h2⟩ := sq_of h
 have h3 := wide_bd h1
 rw [<- h2, Nat.min_self] at h3
 exact ⟨_, _, h3⟩
theorem Bd.one {rows cols : Nat} {A : Mx} {N X cc : Nat} (h : Bd rows cols A N X cc) (h0 : 0 < N) : 1 <= X := by
 rw [h.hX]
 exact Nat.mul_pos h0 h.h1
theorem Bd.less {n : Nat} {A B : Mx} {X cc : Nat} (h : Bd (n + 1) (n + 1) A (n + 1) X cc) (hB : ∀ i k, i < n -> k < n -> (B i k).natAbs <= cc) : Bd n n B n (n * cc) cc := by
 refine ⟨(Nat.min_self n).symm, rfl, h.h1, ?_, hB⟩
 refine Nat.lt_of_le_of_lt ?_ h.hlt
 have h1 : n * cc <= X := by rw [h.hX]; exact Nat.mul_le_mul_right _ (by omega)
 exact Nat.le_trans (Nat.pow_le_pow_left h1 _) (Nat.pow_le_pow_right (h.one (by omega)) (by omega))
theorem adjE_small {R : List (List Int)} (h : sqE R = 0) {i j : Nat} (hi : i < R.length) (hj : j < R.length) : (det (R.length - 1) (minor2 (ent R) j i)).natAbs < 2 ^ 4096 /\ (adjE R i j).natAbs < 2 ^ 4096 := by
 obtain ⟨X, cc, hb⟩ := sq_bd h
 obtain ⟨n, hn⟩ : ∃ n, R.length = n + 1 := ⟨R.length - 1, by omega⟩
 have h1 : (det (R.length - 1) (minor2 (ent R) j i)).natAbs < 2 ^ 4096 := by
  refine hb.small (by omega) (s := R.length - 1) (by omega) ?_
  rw [hb.hX]
  exact det_abs (by omega) fun x y hx hy => hb.ent _ _ (by rw [hn]; exact skip_lt (by omega)) (by rw [hn]; exact skip_lt (by omega))
 refine ⟨h1, ?_⟩
 unfold adjE
 rw [Int.natAbs_mul, alt_abs, Nat.one_mul]
 exact h1
theorem adjR_good {R : List (List Int)} (hg : Good R) (h : sqE R = 0) : Good (adjR R) := Good.ofE hg.rows hg.rows id fun i j hi hj => (adjE_small h hi hj).2
theorem alt_par (n : Nat) : alt n = if n % 2 = 0 then 1 else -1 := by
 induction n with
 | zero => rfl
 | succ n ih =>
  show -alt n = _
  rw [ih]
  by_cases h : n % 2 = 0
  ·rw [if_pos h, if_neg (by omega)]
  ·rw [if_neg h, if_pos (by omega)]; rfl
theorem adj_run2 (K d : Nat) (H : Heap) (a b p q r : SV) : runQ wk tab slow K (d + 9) 59 [a, b, p, q, r] H = f59 slow K (runQ wk tab slow K (d + 8)) a b p q r H := Eq.trans rfl rfl
theorem adj_entry (K : Nat) (hK : 200000 < K) (d : Nat) {H0 : Heap} {pn pa pk w : SV} {R : List (List Int)} (hs : sqE R = 0) (hg : Good R) (hpn : Holds H0 pn (i64 R.length)) (hpa : Holds H0 pa w) (hga : pa.good = true) (hw : IsRows H0 w R) (hpk : Holds H0 pk (.fn 58 [] [])) (hgk : pk.good = true) : EntryOk (runQ wk tab slow K (d + 9)) 59 [pn, pa, pk] H0 R.length R.length (adjE R) := fun i j H hi hj hf => by
 have h16 := hg.rows
 obtain ⟨hwide, hsq⟩ := sq_of hs
 obtain ⟨X, cc, hb⟩ := sq_bd hs
 obtain ⟨n, hn⟩ : ∃ n, R.length = n + 1 := ⟨R.length - 1, by omega⟩
 obtain ⟨pi, H1, b1, f1, hpi, gpi⟩ := z_boxH (x := i64 i) rfl H
 obtain ⟨pj, H2, b2, f2, hpj, gpj⟩ := z_boxH (x := i64 j) rfl H1
 have f02 := Frame.trans hf (Frame.trans f1 f2)
 have ent2 := min_entry K (d + 5) (n := n) (i := i) (j := j) hn (by omega) hg (hpa.fr f02) (hw.fr f02) (hpk.fr f02) hpj (hpi.fr f2) (by omega) (by omega)
 obtain ⟨r, H3, h3, f3, hm⟩ := made_ok K (by omega) (d + 5 + 2) (H0 := H2) (rows := n) (cols := n) (by omega) (by omega) ent2
 rw [show d + 5 + 2 + 1 = d + 8 from rfl] at h3
 have hme : ∀ x y, x < n -> y < n -> ent (matOfE (minE R i j) n n) x y = minor2 (ent R) j i x y := fun x y hx hy => ent_matOfE hx hy
 have hle : ∀ x y, x < n -> y < n -> (ent R (skip j x) (skip i y)).natAbs <= cc := fun x y hx hy => hb.ent _ _ (by rw [hn]; exact skip_lt hx) (by rw [hn]; exact skip_lt hy)
 have hgd : Good (matOfE (minE R i j) n n) := Good.ofE (by omega) (by omega) id fun x y hx hy => by
  obtain ⟨_, _, _, h⟩ := hg.at (i := skip j x) (j := skip i y) (by rw [hn]; exact skip_lt hx) (by rw [<- hsq, hn]; exact skip_lt hy)
  exact h
 have hcl : colsOf (matOfE (minE R i j) n n) = n := by
  by_cases h0 : n = 0
  ·subst h0; rfl
  ·exact colsOf_matOfE (by omega)
 have hbd : Bd (matOfE (minE R i j) n n).length (colsOf (matOfE (minE R i j) n n)) (ent (matOfE (minE R i j) n n)) n (n * cc) cc := by
  rw [matOfE_len, hcl]
  rw [hn] at hb
  exact hb.less fun x y hx hy => by rw [hme x y hx hy]; exact hle x y hx hy
 obtain ⟨y, H4, h4, f4, n4⟩ := steps_ok K hK d H3 hm.mat hgd hgd.rows hgd.c16 hbd
 rw [matOfE_len, hcl, bare_det, det_congr hme] at n4
 have hn1 : R.length - 1 = n := by omega
 obtain ⟨hs1, hs2⟩ := adjE_small hs hi hj
 rw [hn1] at hs1
 have n4' := n4
 obtain ⟨y2, rfl, _, _⟩ := n4
 have f24 := Frame.trans f3 f4
 have f04 := Frame.trans f02 f24
 have hall : [pa, pk, pj, pi].all SV.good = true := by simp [gpi, gpj, hga, hgk]
 have hi4 := (hpi.fr f2).fr f24
 have hj4 := hpj.fr f24
 have fin : ∀ (H5 : Heap) (b s : SV), Frame H4 H5 -> IsInt H5 (.agg [b, s]) (det n (minor2 (ent R) j i)) -> ∃ r H', f59_j1 slow K (runQ wk tab slow K (d + 8)) pi pj (.box [.bool false, .slice nilSl]) (.box [b, s]) H5 = some (r, H') /\ Frame H H' /\ IsInt H' r (adjE R i j) := fun H5 b s f5 n5 => by
  have fH := Frame.trans (Frame.trans f1 f2) (Frame.trans f24 f5)
  have e : adjE R i j = if (i + j) % 2 = 0 then det n (minor2 (ent R) j i) else -det n (minor2 (ent R) j i) := by
   unfold adjE
   rw [hn1, alt_par]
   split <;> omega
  have ad : ∀ k, slow.add (i64 i) (i64 j) k = k (i64 (i + j)) := fun k => n_addi k (by omega)
  have rm : ∀ k, slow.rem (i64 (i + j)) (.int .i64 2) k = k (i64 ((i + j) % 2)) := fun k => n_rem k .i64 (i + j) (b := 2) (by decide)
  have ne : ∀ k, slow.neq (i64 ((i + j) % 2)) (.int .i64 0) k = k (.bool (decide ((i + j) % 2 ≠ 0))) := fun k => n_neq k .i64 _ 0
  by_cases hp : (i + j) % 2 = 0
  ·refine ⟨.agg [b, s], H5, ?_, fH, ?_⟩
   ·have hp' : ¬ (i + j) % 2 ≠ 0 := fun h => h hp
    simp only [f59_j1, (hi4.fr f5).load, (hj4.fr f5).load, ad, rm, ne, decide_eq_false hp', z_cond, cond_false, z_lload2, z_bst2, z_resc2]
   ·rw [e, if_pos hp]
    exact n5
  ·obtain ⟨y3, h6, n6⟩ := zneg_ok K (d + 4) H5 n5 hs1
   rw [show d + 4 + 4 = d + 8 from rfl] at h6
   have n6' := n6
   obtain ⟨y4, rfl, _, _⟩ := n6
   refine ⟨.agg [.bool (decide (-det n (minor2 (ent R) j i) < 0)), y4], H5, ?_, fH, by rw [e, if_neg hp]; exact n6'⟩
   ·simp only [f59_j1, (hi4.fr f5).load, (hj4.fr f5).load, ad, rm, ne, decide_eq_true (show (i + j) % 2 ≠ 0 from hp), z_cond, cond_true, z_lload2, h6, z_call, z_bst2, z_resc2]
 rw [List.nil_append]
 show ∃ r H', runQ wk tab slow K (d + 9) 59 [i64 i, i64 j, pn, pa, pk] H = _ /\ _
 rw [adj_run2]
 have sb : ∀ k, slow.sub (i64 R.length) (.int .i64 1) k = k (i64 n) := fun k => by
  have := n_subi k (a := R.length) (b := 1) (by omega) (by omega)
  rw [hn1] at this
  exact this
 simp only [f59, b1, b2, (hpn.fr f02).load, sb, z_mkfn hall, h3, z_call, h4, z_ext0, z_ext1, z_bst2, (hpn.fr f04).load, z_eql, z_cond]
 by_cases h1 : n = 0
 ·have hb1 : ((R.length : Int) == 1) = true := by simp; omega
  obtain ⟨o, H5, h5, f5, n5⟩ := zof_ok K (by omega) (d + 5) H4 (z := 1) (by decide) (by decide)
  rw [show d + 5 + 3 = d + 8 from rfl] at h5
  have hd1 : det n (minor2 (ent R) j i) = 1 := by subst h1; rfl
  have n5' := n5
  obtain ⟨o2, rfl, _, _⟩ := n5
  obtain ⟨r, H6, h6, g6⟩ := fin H5 _ _ f5 (by rw [hd1]; exact n5')
  refine ⟨r, H6, ?_, g6⟩
  simp only [hb1, cond_true, h5, z_call, z_bst2]
  exact h6
 ·have hb1 : ((R.length : Int) == 1) = false := by simp; omega
  obtain ⟨r, H6, h6, g6⟩ := fin H4 _ _ (Fr.refl _ _) n4'
  refine ⟨r, H6, ?_, g6⟩
  simp only [hb1, cond_false]
  exact h6
theorem adj_run (K d : Nat) (H : Heap) (a : SV) : runQ wk tab slow K (d + 11) 33 [a] H = f33 slow K (runQ wk tab slow K (d + 10)) a H := Eq.trans rfl rfl
theorem adj_ok (K : Nat) (hK : 200000 < K) (d : Nat) (H : Heap) {a : SV} {R : List (List Int)} (ha : IsMat H a R) (hg : Good R) :
  ∃ r H', runQ wk tab slow K (d + 11) 33 [a] H = some (.tuple [r, .int .i64 (sqE R)], H') /\ Frame H H' /\ IsMat H' r (if sqE R = 0 then adjR R else []) := by
 rw [adj_run]
 have hsqF := fun H' (f : Frame H H') => square_ok K (by omega) (d + 6) H' (ha.fr f) hg.big hg.rows hg.c16r hg.c16
 have hszF := fun H' (f : Frame H H') => msize_ok K (d + 9) H' (ha.fr f)
 obtain ⟨v, rfl, hv⟩ := ha
 obtain ⟨p, H1, b1, f1, hp, gp⟩ := z_boxM v H
 have h2 := hsqF H1 f1
 rw [show d + 6 + 4 = d + 10 from rfl] at h2
 by_cases h0 : sqE R = 0
 ·obtain ⟨hwide, hsq⟩ := sq_of h0
  have hsz := hszF H1 f1
  rw [show d + 9 + 1 = d + 10 from rfl] at hsz
  obtain ⟨H2, H3, a3, s3, f3, x3, z3⟩ := Box.alloc H1 0 R.length
  obtain ⟨pk, H4, H5, a5, s5, f5, hpk, gpk⟩ := z_allocF 58 H3
  have hpn := x3.holds.fr f5
  have f15 := Frame.trans f3 f5
  have hent := adj_entry K hK d (H0 := H5) h0 hg hpn (hp.fr f15) gp (hv.fr (Frame.trans f1 f15)) hpk gpk
  have hrows := hg.rows
  obtain ⟨r, H6, h6, f6, hm⟩ := made_ok K (by omega) (d + 9) (H0 := H5) (rows := R.length) (cols := R.length) (by omega) (by omega) hent
  rw [show d + 9 + 1 = d + 10 from rfl] at h6
  have hm' := hm.mat
  obtain ⟨mw, rfl, _⟩ := hm
  have hall : [SV.ptr (H1.size, 0), p, pk].all SV.good = true := by simp [gp, gpk]; rfl
  refine ⟨.agg [mw], H6, ?_, Frame.trans f1 (Frame.trans f15 f6), ?_⟩
  ·rw [h0] at h2
   have hc : ((0 : Int) != 0) = false := rfl
   simp only [f33, b1, Holds.loadA hp, h2, z_call, z_neq, hc, z_cond, cond_false, hsz, z_ext0, z_ext1, a3, s3, a5, s5, hpn.load, z_mkfn hall, h6, z_bst1, z_resc1, h0]
  ·rw [if_pos h0]
   exact hm'
 ·have hc : (sqE R != 0) = true := by simp [h0]
  refine ⟨.agg [.slice nilSl], H1, ?_, f1, ?_⟩
  ·have hz : ∀ k, slow.build [.slice nilSl] [] [] k = k (.agg [.slice nilSl]) := fun k => z_build0 k _
   simp only [f33, b1, Holds.loadA hp, h2, z_call, z_neq, hc, z_cond, cond_true, hz, z_bst1, z_resc1, z_rest_int]
  ·rw [if_neg h0]
   exact IsMat.nil H1
end Go.Sh.Of

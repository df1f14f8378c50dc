/- Contracts of the reference's layer 5: Product. -/
import Derived.Test.YtdibokcaoefeaaaRefS
set_option linter.unusedVariables false
set_option linter.unusedSimpArgs false
namespace Go.Sh.Of
open Go

theorem RRow.set {lo : Nat} {H : Heap} {t : SV} {zs : List Int} (h : RRow lo H t zs) {j : Nat} (hj : j < zs.length) {b s : SV} {z : Int} (hz : IsRZ H (.agg [b, s]) z) :
    ∃ H', (∀ k, slow.idx 2 t (i64 j) (fun p => slow.store 2 p (.agg [b, s]) H k) = k H') ∧ RRow lo H' t (zs.set j z) ∧ Fr lo H H' ∧ H'.size = H.size := by
  have hX := h.cells
  obtain ⟨els, h1, h2, h3, h4⟩ := h
  obtain ⟨H2, st, ho2, f2, sz2, hro⟩ := h1.store (i := j) (by omega) (e := [b, s]) rfl .i64
  refine ⟨H2, st, ⟨els.set j [b, s], ho2, by simp [h2], fun e he => ?_, fun q e z' he hz' => ?_⟩, f2, sz2⟩
  · rcases List.mem_or_eq_of_mem_set he with he | rfl
    · exact h3 e he
    · exact hz.cell
  · by_cases hq : q = j
    · subst hq
      rw [List.getElem?_set_self (by omega)] at he hz'
      cases he
      cases hz'
      exact hz.keep (X := fun r => inRow t r) hX fun r hr _ => hro r hr
    · rw [List.getElem?_set_ne (Ne.symm hq)] at he hz'
      exact (h4 q e z' he hz').keep (X := fun r => inRow t r) hX fun r hr _ => hro r hr
theorem IsRZ.nought (H : Heap) : IsRZ H (.agg [.bool false, .slice nilSl]) 0 := ⟨nilSl, rfl, IsR.zero (Arr.nil H)⟩
theorem RRow.made {lo : Nat} {H : Heap} (hl : lo ≤ H.size) (n : Nat) (hn : n ≤ 1000) : ∃ t H', (∀ k, slow.make 2 32 [.bool false, .slice nilSl] (i64 n) (i64 n) H k = k t H') ∧ RRow lo H' t (List.replicate n 0) ∧ Frame H H' := by
  obtain ⟨t, H1, h1, ho1, f1, _, _⟩ := z_makeS (H := H) (lo := lo) hl 2 32 (by decide) [.bool false, .slice nilSl] rfl n (by omega) (roomy_small (by omega)) .i64 .i64
  refine ⟨t, H1, h1, ⟨_, ho1, by simp, fun e he => by rw [List.eq_of_mem_replicate he]; exact ⟨_, _, rfl⟩, fun q e z he hz => ?_⟩, f1⟩
  have h2 := List.eq_of_mem_replicate (List.mem_of_getElem? he)
  have h3 := List.eq_of_mem_replicate (List.mem_of_getElem? hz)
  rw [h2, h3]
  exact IsRZ.nought H1
theorem rpr_k (K : Nat) (hK : 3000000 < K) (d : Nat) {H0 Hi : Heap} (h0i : Frame H0 Hi) {la lb : Nat} {v w : SV} {A B : List (List Int)} (hv : IsRRows la H0 v A) (hw : IsRRows lb H0 w B) (ha : Good A) (hb : Good B) (hab : colsOf A = B.length) {i j : Nat} (hi : i < A.length) (hj : j < colsOf B) (out t : SV) (k26 : SV → SV → SV → SV → SV → SV → Heap → Rs) : ∀ (m x fuel : Nat) (H : Heap) (zs : List Int) (s : Int), x + m = B.length → m < fuel → Frame Hi H → RRow Hi.size H t zs → zs.length = colsOf B → zs[j]? = some s → s.natAbs < 2 ^ 4096 →
    (errFrom (ent A i) (fun y => ent B y j) x m s = 0 ∧ ∃ H' zs', slow.loop7 (f17_l6 slow K (runQ wk tab slow K (d + 3)) k26) fuel v w out (i64 i) t (i64 j) (i64 x) H = k26 v w out (i64 i) t (i64 (j + 1)) H' ∧ Frame Hi H' ∧ RRow Hi.size H' t zs' ∧ zs'.length = colsOf B ∧ zs'[j]? = some (dotFrom (ent A i) (fun y => ent B y j) x m s) ∧ ∀ q, q ≠ j → zs'[q]? = zs[q]?) ∨
    (errFrom (ent A i) (fun y => ent B y j) x m s = 3 ∧ ∃ H', slow.loop7 (f17_l6 slow K (runQ wk tab slow K (d + 3)) k26) fuel v w out (i64 i) t (i64 j) (i64 x) H = some (.tuple [.slice nilSl, .int .i64 3], H') ∧ Frame Hi H')
  | 0, x, fuel, H, zs, s, hxm, hf, hfr, ht, hzl, hzj, hs => by
    obtain ⟨fuel, rfl⟩ : ∃ m, fuel = m + 1 := ⟨fuel - 1, by omega⟩
    have hx : ¬ x < B.length := by omega
    have hc := hb.c16
    refine .inl ⟨rfl, H, zs, ?_, hfr, ht, hzl, hzj, fun _ _ => rfl⟩
    rw [z_loop7]
    simp only [f17_l6, (hw.fr (Frame.trans h0i hfr)).len, n_lss, decide_eq_false hx, z_cond, cond_false]
    rw [show (SV.int .i64 1) = i64 1 from rfl, n_addi _ (by omega)]
  | m + 1, x, fuel, H, zs, s, hxm, hf, hfr, ht, hzl, hzj, hs => by
    obtain ⟨fuel, rfl⟩ : ∃ m, fuel = m + 1 := ⟨fuel - 1, by omega⟩
    have hx : x < B.length := by omega
    have hrB := hb.rows
    have hF := Frame.trans h0i hfr
    obtain ⟨u, a, g1, g2, g3, g4, g5⟩ := (hv.fr hF).entry ha (i := i) (j := x) hi (by omega)
    obtain ⟨u', a', g1', g2', g3', g4', g5'⟩ := (hw.fr hF).entry hb (i := x) (j := j) hx hj
    obtain ⟨p, H1, h1, f1, hp⟩ := rzmul_ok K hK d H g4 g4' (by have := rbig g5; omega) (by have := rbig g5'; omega)
    obtain ⟨pb, ps, rfl⟩ := hp.agg
    have hpl := prod_len g5 g5'
    obtain ⟨y, hy, hyz⟩ := (ht.fr f1).zs.load hzj
    have hy' : ∀ k, slow.idx 2 t (i64 j) (fun p => slow.load 2 true p H1 k) = k y := fun k => hy .i64 k
    obtain ⟨q, H2, h2, f2, hq⟩ := rzadd_ok K hK d H1 hyz hp (by have := rbig hs; omega) (by omega)
    obtain ⟨qb, qs, rfl⟩ := hq.agg
    have l1 := rzlong_ok K (by omega) (d + 1) H2 (hp.fr f2) (by omega)
    have l2 := rzlong_ok K (by omega) (d + 1) H2 hq (by have := sum_len2 hs hpl; omega)
    rw [z_loop7]
    simp only [f17_l6, (hw.fr hF).len, n_lss, decide_eq_true hx, z_cond, cond_true, g1, g3, g1', g3', h1, z_call, z_bst2, hy', z_lload2, h2, z_lfld, z_lld1, l1, l2, z_guard]
    by_cases hA : (ent A i x * ent B x j).natAbs < 2 ^ 4096
    · by_cases hS : (s + ent A i x * ent B x j).natAbs < 2 ^ 4096
      · obtain ⟨H3, st, ht3, f3, _⟩ := ((ht.fr f1).fr f2).set (j := j) (by omega) hq
        have hF3 : Frame Hi H3 := Fr.trans (Frame.trans hfr (Frame.trans f1 f2)) f3
        have e5 : errFrom (ent A i) (fun y => ent B y j) x (m + 1) s = errFrom (ent A i) (fun y => ent B y j) (x + 1) m (s + ent A i x * ent B x j) := by
          conv => lhs; unfold errFrom
          rw [if_pos hA, if_pos hS]
        have e6 : dotFrom (ent A i) (fun y => ent B y j) x (m + 1) s = dotFrom (ent A i) (fun y => ent B y j) (x + 1) m (s + ent A i x * ent B x j) := rfl
        rw [decide_eq_true hA, decide_eq_true hS, e5, e6]
        simp only [Bool.not_true, cond_false, f17_j8, z_cond, z_lload2, st]
        rw [show (SV.int .i64 1) = i64 1 from rfl, n_addi _ (by omega)]
        rcases rpr_k K hK d h0i hv hw ha hb hab hi hj out t k26 m (x + 1) fuel H3 (zs.set j (s + ent A i x * ent B x j)) (s + ent A i x * ent B x j) (by omega) (by omega) hF3 ht3 (by simp [hzl]) (List.getElem?_set_self (by omega)) hS with ⟨q1, H4, zs', q2, q3, q4, q5, q6, q7⟩ | ⟨q1, H4, q2, q3⟩
        · exact .inl ⟨q1, H4, zs', q2, q3, q4, q5, q6, fun c hc => by rw [q7 c hc, List.getElem?_set_ne (Ne.symm hc)]⟩
        · exact .inr ⟨q1, H4, q2, q3⟩
      · have e5 : errFrom (ent A i) (fun y => ent B y j) x (m + 1) s = 3 := by
          unfold errFrom
          rw [if_pos hA, if_neg hS]
        rw [decide_eq_true hA, decide_eq_false hS]
        refine .inr ⟨e5, H2, ?_, Frame.trans hfr (Frame.trans f1 f2)⟩
        simp only [Bool.not_true, Bool.not_false, cond_false, f17_j8, z_cond, cond_true]
    · have e5 : errFrom (ent A i) (fun y => ent B y j) x (m + 1) s = 3 := by
        unfold errFrom
        rw [if_neg hA]
      rw [decide_eq_false hA]
      refine .inr ⟨e5, H2, ?_, Frame.trans hfr (Frame.trans f1 f2)⟩
      simp only [Bool.not_false, cond_true, f17_j8, z_cond]
theorem rpr_j (K : Nat) (hK : 3000000 < K) (d : Nat) {H0 Hi : Heap} (h0i : Frame H0 Hi) {la lb : Nat} {v w : SV} {A B : List (List Int)} (hv : IsRRows la H0 v A) (hw : IsRRows lb H0 w B) (ha : Good A) (hb : Good B) (hab : colsOf A = B.length) {i : Nat} (hi : i < A.length) {lo : Nat} {out : SV} {rows : List (List Int)} (ho : ROut lo Hi out rows) (hlo : lo ≤ Hi.size) (hrl : rows.length = i) (t : SV) (k12 : SV → SV → SV → SV → Heap → Rs) : ∀ (m j fuel : Nat) (H : Heap) (zs : List Int), j + m = colsOf B → m < fuel → Frame Hi H → RRow Hi.size H t zs → zs.length = colsOf B → (∀ q, q < j → zs[q]? = some (dotE A B i q)) → (∀ q, j ≤ q → q < colsOf B → zs[q]? = some 0) →
    (stIn (dotErr A B) i j m 0 = 0 ∧ ∃ out' H', slow.loop6 (f17_l4 slow K (runQ wk tab slow K (d + 3)) k12) fuel v w out (i64 i) t (i64 j) H = k12 v w out' (i64 (i + 1)) H' ∧ Fr lo Hi H' ∧ ROut lo H' out' (rows ++ [rowOfE (dotE A B) (colsOf B) i])) ∨
    (stIn (dotErr A B) i j m 0 ≠ 0 ∧ ∃ H', slow.loop6 (f17_l4 slow K (runQ wk tab slow K (d + 3)) k12) fuel v w out (i64 i) t (i64 j) H = some (.tuple [.slice nilSl, .int .i64 (stIn (dotErr A B) i j m 0)], H') ∧ Frame Hi H')
  | 0, j, fuel, H, zs, hjm, hf, hfr, ht, hzl, hz1, hz2 => by
    obtain ⟨fuel, rfl⟩ : ∃ m, fuel = m + 1 := ⟨fuel - 1, by omega⟩
    have hj : j = colsOf B := by omega
    subst hj
    have hr := ha.rows
    have hzs : zs = rowOfE (dotE A B) (colsOf B) i := by
      apply List.ext_getElem?
      intro q
      by_cases hq : q < colsOf B
      · rw [hz1 q hq, rowOfE_get hq]
      · rw [List.getElem?_eq_none (by omega), List.getElem?_eq_none (by rw [rowOfE_len]; omega)]
    subst hzs
    obtain ⟨out', H2, hp, ho2, f2⟩ := ho.push hlo hfr ht (by omega)
    refine .inl ⟨rfl, out', H2, ?_, f2, ho2⟩
    rw [z_loop6]
    have hlt : ¬ colsOf B < colsOf B := Nat.lt_irrefl _
    have htl : ∀ k, slow.len t k = k (i64 (colsOf B)) := fun k => by rw [ht.zs.len, rowOfE_len]
    simp only [f17_l4, htl, n_lss, decide_eq_false hlt, z_cond, cond_false, hp]
    rw [show (SV.int .i64 1) = i64 1 from rfl, n_addi _ (by omega)]
  | m + 1, j, fuel, H, zs, hjm, hf, hfr, ht, hzl, hz1, hz2 => by
    obtain ⟨fuel, rfl⟩ : ∃ m, fuel = m + 1 := ⟨fuel - 1, by omega⟩
    have hj : j < colsOf B := by omega
    have hrB := hb.rows
    have htl : ∀ k, slow.len t k = k (i64 (colsOf B)) := fun k => by rw [ht.zs.len, hzl]
    rw [z_loop6]
    simp only [f17_l4, htl, n_lss, decide_eq_true hj, z_cond, cond_true]
    rw [show (SV.int .i64 0) = i64 0 from rfl]
    have ed : dotErr A B i j = errFrom (ent A i) (fun y => ent B y j) 0 B.length 0 := by unfold dotErr; rw [hab]
    have ee : dotE A B i j = dotFrom (ent A i) (fun y => ent B y j) 0 B.length 0 := by unfold dotE; rw [hab]
    rcases rpr_k K hK d h0i hv hw ha hb hab hi hj out t (slow.loop6 (f17_l4 slow K (runQ wk tab slow K (d + 3)) k12) fuel) B.length 0 K H zs 0 (by omega) (by omega) hfr ht hzl (hz2 j (Nat.le_refl j) hj) (Nat.two_pow_pos 4096) with ⟨q1, H1, zs', q2, q3, q4, q5, q6, q7⟩ | ⟨q1, H1, q2, q3⟩
    · rw [← ed] at q1
      rw [← ee] at q6
      have e4 : stIn (dotErr A B) i j (m + 1) 0 = stIn (dotErr A B) i (j + 1) m 0 := by
        simp only [stIn, if_pos]
        rw [q1]
      rw [q2, e4]
      exact rpr_j K hK d h0i hv hw ha hb hab hi ho hlo hrl t k12 m (j + 1) fuel H1 zs' (by omega) (by omega) q3 q4 q5 (fun q hq => by
        by_cases hqj : q = j
        · rw [hqj]; exact q6
        · rw [q7 q hqj]; exact hz1 q (by omega)) (fun q hq1 hq2 => by rw [q7 q (by omega)]; exact hz2 q (by omega) hq2)
    · rw [← ed] at q1
      have e4 : stIn (dotErr A B) i j (m + 1) 0 = 3 := by
        simp only [stIn, if_pos]
        rw [q1, stIn_ne (by decide)]
      rw [q2, e4]
      exact .inr ⟨by decide, H1, rfl, q3⟩
theorem rpr_i (K : Nat) (hK : 3000000 < K) (d : Nat) {H0 : Heap} {la lb : Nat} {v w : SV} {A B : List (List Int)} (hv : IsRRows la H0 v A) (hw : IsRRows lb H0 w B) (ha : Good A) (hb : Good B) (hab : colsOf A = B.length) : ∀ (m i fuel : Nat) (H : Heap) (out : SV), i + m = A.length → m < fuel → Frame H0 H → ROut H0.size H out ((List.range i).map (rowOfE (dotE A B) (colsOf B))) →
    ∃ r H', slow.loop4 (f17_l2 slow K (runQ wk tab slow K (d + 3))) fuel v w out (i64 i) H = some (.tuple [r, .int .i64 (stOut (dotErr A B) (colsOf B) i m 0)], H') ∧ Frame H0 H' ∧ IsRRows H0.size H' r (if stOut (dotErr A B) (colsOf B) i m 0 = 0 then mulM A B else [])
  | 0, i, fuel, H, out, him, hf, hfr, ho => by
    obtain ⟨fuel, rfl⟩ : ∃ m, fuel = m + 1 := ⟨fuel - 1, by omega⟩
    have hi : i = A.length := by omega
    subst hi
    refine ⟨out, H, ?_, hfr, ho.rrows⟩
    rw [z_loop4]
    have hlt : ¬ A.length < A.length := Nat.lt_irrefl _
    simp only [f17_l2, (hv.fr hfr).len, n_lss, decide_eq_false hlt, z_cond, cond_false, z_rest ho.good]
    rfl
  | m + 1, i, fuel, H, out, him, hf, hfr, ho => by
    obtain ⟨fuel, rfl⟩ : ∃ m, fuel = m + 1 := ⟨fuel - 1, by omega⟩
    have hlt : i < A.length := by omega
    have hr := ha.rows
    have hc16 := hb.c16
    have c1 := rcols_ok K (d + 2) H (hw.fr hfr)
    obtain ⟨t, H1, h1, ht1, f1⟩ := RRow.made (H := H) (lo := H.size) (Nat.le_refl _) (colsOf B) (by omega)
    rw [z_loop4]
    simp only [f17_l2, (hv.fr hfr).len, n_lss, decide_eq_true hlt, z_cond, cond_true, c1, z_call, h1]
    rw [show (SV.int .i64 0) = i64 0 from rfl]
    rcases rpr_j K hK d (H0 := H0) (Hi := H) hfr hv hw ha hb hab hlt ho hfr.size (by simp) t (slow.loop4 (f17_l2 slow K (runQ wk tab slow K (d + 3))) fuel) (colsOf B) 0 K H1 (List.replicate (colsOf B) 0) (by omega) (by omega) f1 ht1 (by simp) (fun q hq => by omega) (fun q _ hq => by simp [hq]) with ⟨e1, out', H2, h2, f2, ho2⟩ | ⟨e1, H2, h2, f2⟩
    · have e2 : stOut (dotErr A B) (colsOf B) i (m + 1) 0 = stOut (dotErr A B) (colsOf B) (i + 1) m 0 := by simp only [stOut]; rw [e1]
      rw [range_snocR] at ho2
      rw [h2, e2]
      exact rpr_i K hK d hv hw ha hb hab m (i + 1) fuel H2 out' (by omega) (by omega) (Fr.trans hfr f2) ho2
    · have e2 : stOut (dotErr A B) (colsOf B) i (m + 1) 0 = stIn (dotErr A B) i 0 (colsOf B) 0 := by simp only [stOut]; rw [stOut_ne e1]
      rw [h2, e2, if_neg e1]
      exact ⟨_, H2, rfl, Frame.trans hfr f2, IsRRows.nil _ _⟩
theorem rprod_ok (K : Nat) (hK : 3000000 < K) (d : Nat) (H : Heap) {la lb : Nat} {v w : SV} {A B : List (List Int)} (hv : IsRRows la H v A) (hw : IsRRows lb H w B) (ha : Good A) (hb : Good B) :
    ∃ r H', runQ wk tab slow K (d + 4) 17 [v, w] H = some (.tuple [r, .int .i64 (mulE A B)], H') ∧ Frame H H' ∧ IsRRows H.size H' r (if mulE A B = 0 then mulM A B else []) := by
  show ∃ r H', f17 slow K (runQ wk tab slow K (d + 3)) v w H = _ ∧ _
  have c1 := rcols_ok K (d + 2) H hv
  simp only [f17, c1, z_call, hw.len, n_neq, z_cond]
  by_cases h1 : colsOf A = B.length
  · have hn1 : ¬ colsOf A ≠ B.length := fun h => h h1
    have e : mulE A B = stOut (dotErr A B) (colsOf B) 0 A.length 0 := if_pos h1
    have hr := ha.rows
    rw [decide_eq_false hn1, e]
    simp only [cond_false]
    exact rpr_i K hK d hv hw ha hb h1 A.length 0 K H (.slice nilSl) (by omega) (by omega) (Fr.refl _ _) (ROut.nil _ _)
  · have e : mulE A B = 5 := if_neg h1
    rw [decide_eq_true h1, e]
    exact ⟨_, H, rfl, Fr.refl _ _, IsRRows.nil _ _⟩
end Go.Sh.Of

/- gram.Change, once more: what is told are rows of one's own. -/
import Derived.Test.YtkgbokkeemjkkaaGreatChg
import Derived.Test.YtkgbokkeemjkkaaGreatSqI
set_option linter.unusedVariables false
set_option linter.unusedSimpArgs false
namespace Go.Sh.Of
open Go Go.Sh
variable {lo : Nat}
variable {v : SV}
variable {A : List (List Int)}
theorem mi64o_in (K : Nat) (hK : 1000 < K) (d : Nat) {H0 Hi : Heap} (h0i : Frame H0 Hi) {u : SV} {zs : List Int} (hu : IsZs H0 u zs) (hz0 : zs ≠ []) (hbig : ∀ z ∈ zs, z.natAbs < 2 ^ 4096) (hzl : zs.length <= 16) {out : SV} {ws : List SV} (ho : Own lo Hi out ws) (hlo : lo <= Hi.size) (hwl : ws.length <= 16) (hws : ∀ w ∈ ws, isSlice w) (y17 y18 : SV) (i : Nat) (hi : i < 1000) (k10 : SV -> SV -> SV -> SV -> Heap -> Rs) : ∀ (m j fuel : Nat) (H : Heap) (t : SV), j + m = zs.length -> m < fuel -> Frame Hi H -> Own Hi.size H t (intsL .i64 (zs.take j)) ->
  ((zs.drop j).all fits64 = true /\ ∃ out' H' t', slow.loop8 (f32_l3 slow K (runQ wk tab slow K (d + 2)) k10) fuel out t y17 y18 (i64 i) u (i64 zs.length) (i64 j) H = k10 out' y17 y18 (i64 (i + 1)) H' /\ Fr lo Hi H' /\ (∀ r, ¬ inRow out r -> r < Hi.size -> H'.get r = Hi.get r) /\ Own lo H' out' (ws ++ [t']) /\ Own Hi.size H' t' (intsL .i64 zs)) \/
  ((zs.drop j).all fits64 = false /\ ∃ H', slow.loop8 (f32_l3 slow K (runQ wk tab slow K (d + 2)) k10) fuel out t y17 y18 (i64 i) u (i64 zs.length) (i64 j) H = some (.tuple [.slice nilSl, .bool false], H') /\ Frame Hi H')
 | 0, j, fuel, H, t, hjm, hf, hfr, ht => by
  obtain ⟨fuel, rfl⟩ := suc hf
  have hj : j = zs.length := by omega
  subst hj
  rw [List.take_length] at ht
  obtain ⟨out', H2, ha, ho2, hf2, hrw⟩ := push1 (ho.fr hfr) (Nat.le_trans hlo hfr.size) (.slice nilSl) (x := t) ht.arr.flat (by_ := 24) (roomy_small (by omega))
  refine .inl ⟨by simp, out', H2, t, ?_, (hfr.mono hlo).trans hf2, fun r hn hlt => by rw [hrw r hn (Nat.lt_of_lt_of_le hlt hfr.size), hfr.rows r hlt], ho2, ?_⟩
  ·rw [z_loop8]
   have hlt : ¬ zs.length < zs.length := Nat.lt_irrefl _
   simp only [f32_l3, n_lss, decide_eq_false hlt, z_cond, cond_false, ha]
   rw [show (SV.int .i64 1) = i64 1 from rfl, n_addi _ (by omega)]
  ·exact own_keep hz0 (ho.fr hfr) hws ht hrw
 | m + 1, j, fuel, H, t, hjm, hf, hfr, ht => by
  obtain ⟨fuel, rfl⟩ := suc hf
  have hlt : j < zs.length := by omega
  obtain ⟨z, hz⟩ : ∃ z, zs[j]? = some z := ⟨_, List.getElem?_eq_getElem hlt⟩
  have hd : zs.drop j = z :: zs.drop (j + 1) := List.drop_eq_getElem?_toList_append (l := zs) (i := j) ▸ by rw [hz]; rfl
  have huH := hu.fr (Frame.trans h0i hfr)
  obtain ⟨x, y, hld, hint⟩ := huH.load hz
  have h1 := zi64_ok K d H hint (hbig z (List.mem_of_getElem? hz))
  rw [z_loop8]
  simp only [f32_l3, n_lss, decide_eq_true hlt, z_cond, cond_true, hld, z_bst2, z_lload2, h1, z_call, hd, List.all_cons]
  cases hfit : fits64 z with
  | true =>
   obtain ⟨t', H2, ha, ht2, hf2, _⟩ := push1 ht hfr.size (.int .i64 0) (x := .int .i64 z) rfl (by_ := 8) (roomy_small (by simp; omega))
   have e1 : intsL .i64 (zs.take j) ++ [SV.int .i64 z] = intsL .i64 (zs.take (j + 1)) := by
    rw [List.take_add_one, hz]; simp [intsL]
   rw [e1] at ht2
   simp only [if_true, z_ext0, z_ext1, z_not, Bool.not_true, z_cond, cond_false, Bool.true_and, ha]
   rw [show (SV.int .i64 1) = i64 1 from rfl, n_addi _ (by omega)]
   exact mi64o_in K hK d h0i hu hz0 hbig hzl ho hlo hwl hws y17 y18 i hi k10 m (j + 1) fuel H2 t' (by omega) (by omega) (Fr.trans hfr hf2) ht2
  | false =>
   refine .inr ⟨by simp, H, ?_, hfr⟩
   simp only [Bool.false_eq_true, if_false, z_ext0, z_ext1, z_not, Bool.not_false, z_cond, cond_true]
theorem mi64o_out (K : Nat) (hK : 1000 < K) (d : Nat) {H0 : Heap} (hv : IsRows H0 v A) (hg : Good A) : ∀ (m i fuel : Nat) (H : Heap) (out : SV) (ws : List SV), i + m = A.length -> m < fuel -> Frame H0 H -> Own H0.size H out ws -> ws.length = i -> (∀ w ∈ ws, isSlice w) -> (∀ (q : Nat) (w : SV) (zs : List Int), ws[q]? = some w -> A[q]? = some zs -> Own H0.size H w (intsL .i64 zs)) ->
  ∃ r H', slow.loop4 (f32_l1 slow K (runQ wk tab slow K (d + 2))) fuel out v (i64 A.length) (i64 i) H = some (.tuple [r, .bool ((A.drop i).all fun r => r.all fits64)], H') /\ Frame H0 H' /\ (((A.drop i).all fun r => r.all fits64) = true -> OwnRR H0.size H' r A) /\ (((A.drop i).all fun r => r.all fits64) = false -> r = .slice nilSl)
 | 0, i, fuel, H, out, ws, him, hf, hfr, ho, hwl, hws, hdone => by
  obtain ⟨fuel, rfl⟩ := suc hf
  have hi : i = A.length := by omega
  have hnil : A.drop i = [] := List.drop_of_length_le (by omega)
  rw [hnil]
  refine ⟨out, H, ?_, hfr, fun _ => ⟨ws, ho, by omega, hdone⟩, fun h => by simp at h⟩
  ·rw [z_loop4]
   have hlt : ¬ i < A.length := by omega
   simp only [f32_l1, n_lss, decide_eq_false hlt, z_cond, cond_false, z_rest ho.arr.good, List.all_nil]
 | m + 1, i, fuel, H, out, ws, him, hf, hfr, ho, hwl, hws, hdone => by
  obtain ⟨fuel, rfl⟩ := suc hf
  have hlt : i < A.length := by omega
  have hr16 := hg.rows
  have hc16 := hg.c16
  obtain ⟨zs, hz⟩ : ∃ zs, A[i]? = some zs := ⟨_, List.getElem?_eq_getElem hlt⟩
  have hm := List.mem_of_getElem? hz
  have hzl := hg.rect zs hm
  have hd : A.drop i = zs :: A.drop (i + 1) := List.drop_eq_getElem?_toList_append (l := A) (i := i) ▸ by rw [hz]; rfl
  have hA0 : A ≠ [] := fun h => by rw [h] at hm; cases hm
  have hc1 := (hg.cols hA0).1
  have hne : ∀ r ∈ A, r ≠ [] := fun r hr h => by
   have := hg.rect r hr
   rw [h] at this
   simp at this
   omega
  obtain ⟨u, hld, hzs⟩ := (hv.fr hfr).load hz
  rw [z_loop4]
  simp only [f32_l1, n_lss, decide_eq_true hlt, z_cond, cond_true, hld, hzs.len, hd, List.all_cons]
  rw [show (SV.int .i64 0) = i64 0 from rfl]
  rcases mi64o_in K hK d (H0 := H) (Hi := H) (Fr.refl _ _) hzs (hne zs hm) (hg.big zs hm) (by omega) ho hfr.size (by omega) hws v (i64 A.length) i (by omega) (slow.loop4 (f32_l1 slow K (runQ wk tab slow K (d + 2))) fuel) zs.length 0 K H (.slice nilSl) (by omega) (by omega) (Fr.refl _ _) (by simpa using Own.nil H.size H) with ⟨e1, out', H1, t', h1, f1, hrw1, ho1, ha1⟩ | ⟨e1, H1, h1, f1⟩
  ·rw [List.drop_zero] at e1
   rw [h1, e1]
   simp only [Bool.true_and]
   have hs' : isSlice t' := own_isSlice ha1
   exact mi64o_out K hK d hv hg m (i + 1) fuel H1 out' (ws ++ [t']) (by omega) (by omega) (Fr.trans hfr f1) ho1 (by simp [hwl]) (fun q hq => by
    rcases List.mem_append.1 hq with hq | hq
    ·exact hws q hq
    ·rw [List.mem_singleton.1 hq]; exact hs') (fun q w zs' hw hz' => by
     by_cases hq : q < ws.length
     ·rw [List.getElem?_append_left hq] at hw
      exact own_keep (hne zs' (List.mem_of_getElem? hz')) ho hws (hdone q w zs' hw hz') hrw1
     ·have hq2 : q = ws.length := by have := (List.getElem?_eq_some_iff.1 hw).1; simp at this; omega
      subst hq2
      simp at hw
      subst hw
      rw [hwl, hz] at hz'
      cases hz'
      exact ha1.mono hfr.size)
  ·rw [List.drop_zero] at e1
   rw [h1, e1]
   simp only [Bool.false_and]
   exact ⟨_, H1, rfl, Frame.trans hfr f1, (fun h => by cases h), fun _ => rfl⟩
theorem mi64o_ok (K : Nat) (hK : 1000 < K) (d : Nat) (H : Heap) (hv : IsMat H v A) (hg : Good A) :
  ∃ r H', runQ wk tab slow K (d + 3) 32 [v] H = some (.tuple [r, .bool (allFit A)], H') /\ Frame H H' /\ (allFit A = true -> OwnRR H.size H' r A) /\ (allFit A = false -> r = .slice nilSl) := by
 obtain ⟨w, rfl, hr⟩ := hv
 have hrows := hg.rows
 show ∃ r H', f32 slow K (runQ wk tab slow K (d + 2)) (.agg [w]) H = _ /\ _
 simp only [f32, z_bbox, z_lfld, z_lld0, hr.len]
 exact mi64o_out K hK d hr hg A.length 0 K H (.slice nilSl) [] (by omega) (by omega) (Fr.refl _ _) (Own.nil _ _) rfl (fun w hw => by cases hw) (fun q w zs hw => by simp at hw)
theorem chgo_ok (K : Nat) (hK : 1000000 < K) (d : Nat) (H : Heap) {w : SV} {U : List (List Int)} (hv : IsInts2 H v A) (hu : IsMat H (.agg [w]) U) (hg : Good U) :
  ∃ out H', runQ wk tab slow K (d + 21) 9 [v, .agg [w]] H = some (.tuple [out, .int .i64 (chgE A U)], H') /\ Frame H H' /\ OwnRR H.size H' out (if chgE A U = 0 then chgM A U else []) := by
 rw [chg_run]
 obtain ⟨H1, h1, f1⟩ := chk_ok K (by omega) (d + 11) H hv
 rw [show d + 11 + 9 = d + 20 from rfl] at h1
 have stop : ∀ {e : Int} (H' : Heap), chgE A U = e -> e ≠ 0 -> OwnRR H.size H' (.slice nilSl) (if chgE A U = 0 then chgM A U else []) := fun H' he hn => by
  rw [if_neg (by rw [he]; exact hn)]
  exact OwnRR.nil _ _
 by_cases e0 : chkE A = 0
 ·have b0 : (chkE A != 0) = false := by simp [e0]
  have hs := (chk_form.1 e0).sq
  have h8 := hs.n8
  have hsz := msize_ok K (d + 19) H1 (hu.fr f1)
  rw [show d + 19 + 1 = d + 20 from rfl] at hsz
  have c4 : ∀ k, slow.neq (.int .i64 (chkE A)) (.int .i64 0) k = k (.bool false) := fun k => by rw [z_neq, b0]
  simp only [f9, z_bbox, h1, z_call, c4, z_cond, cond_false, ints_len (IsRowsC.fr hv f1), z_lload1, hsz, z_ext0, z_ext1, n_neq, z_guard]
  have five : f9_j2 slow K (runQ wk tab slow K (d + 20)) v (.box [w]) (.bool true) H1 = some (.tuple [.slice nilSl, .int .i64 5], H1) := rfl
  by_cases e1 : U.length = A.length
  ·have n1 : ¬ U.length ≠ A.length := fun h => h e1
   rw [decide_eq_false n1, cond_false]
   by_cases e2 : colsOf U = A.length
   ·have n2 : ¬ colsOf U ≠ A.length := fun h => h e2
    rw [decide_eq_false n2]
    obtain ⟨r, H2, h2, f2, n2'⟩ := det_ok K (by omega) (d + 11) H1 (hu.fr f1) hg hg.big hg.rows (fun r hr => by have := hg.rect r hr; omega) hg.c16
    rw [show d + 11 + 9 = d + 20 from rfl] at h2
    by_cases e3 : sqE U = 0
    ·have b3 : (sqE U != 0) = false := by simp [e3]
     rw [if_pos e3] at n2'
     have hds := detR_small' hg e3
     have h3 := zsign_ok K (d + 17) H2 n2' hds
     rw [show d + 17 + 3 = d + 20 from rfl] at h3
     obtain ⟨dl, rfl, _, _⟩ := n2'
     have F2 := Frame.trans f1 f2
     by_cases e4 : detR U = 0
     ·have he : chgE A U = 50 := by unfold chgE; rw [if_neg (fun h => h e0), if_neg n1, if_neg n2, if_neg (fun h => h e3), if_pos e4]
      refine ⟨.slice nilSl, H2, ?_, F2, stop H2 he (by decide)⟩
      have b4 : (signZ (detR U) == 0) = true := by rw [sign_zero, decide_eq_true e4]
      simp only [f9_j2, z_cond, cond_false, z_lload1, h2, z_call, z_ext0, z_ext1, z_bst2, z_neq, b3, z_lload2, h3, z_eql, b4, cond_true, he]
     ·have b4 : (signZ (detR U) == 0) = false := by rw [sign_zero, decide_eq_false e4]
      obtain ⟨m, H3, h4, f3, m3⟩ := mof_w K hK d H2 (IsRowsC.fr hv F2) hs
      have F3 := Frame.trans F2 f3
      have gA := hs.good
      obtain ⟨x, H4, h5, f4, m4⟩ := mmul_ok K (by omega) (d + 10) H3 (hu.fr F3) m3 hg gA
      rw [show d + 10 + 10 = d + 20 from rfl] at h5
      have F4 := Frame.trans F3 f4
      have m4' := m4.mat
      obtain ⟨xw, rfl, _⟩ := m4'
      by_cases e5 : mulE U A = 0
      ·have b5 : (mulE U A != 0) = false := by simp [e5]
       have gP := mulM_good hg gA e5
       have mP := m4.mat
       rw [if_pos e5] at mP
       obtain ⟨ut, H5, h6, f5, m5⟩ := mtrans_ok K (by omega) (d + 17) H4 (hu.fr F4) hg
       rw [show d + 17 + 3 = d + 20 from rfl] at h6
       have F5 := Frame.trans F4 f5
       obtain ⟨y, H6, h7, f6, m6⟩ := mmul_ok K (by omega) (d + 10) H5 (mP.fr f5) m5.mat gP (trM_good hg)
       rw [show d + 10 + 10 = d + 20 from rfl] at h7
       have F6 := Frame.trans F5 f6
       have m6' := m6.mat
       have gQ : Good (if mulE (mulM U A) (trM U) = 0 then mulM (mulM U A) (trM U) else []) := by
        split
        ·rename_i h; exact mulM_good gP (trM_good hg) h
        ·exact Good.nil
       obtain ⟨out, H7, h8', f7, i7, j7⟩ := mi64o_ok K (by omega) (d + 17) H6 m6' gQ
       rw [show d + 17 + 3 = d + 20 from rfl] at h8'
       have F7 := Frame.trans F6 f7
       obtain ⟨yw, rfl, _⟩ := m6'
       by_cases e6 : mulE (mulM U A) (trM U) = 0
       ·have b6 : (mulE (mulM U A) (trM U) != 0) = false := by simp [e6]
        have eQ : (if mulE (mulM U A) (trM U) = 0 then mulM (mulM U A) (trM U) else []) = chgM A U := if_pos e6
        rw [eQ] at gQ h8' i7 j7
        cases e7 : allFit (chgM A U) with
        | true =>
         have iqo := i7 e7
         have iq := iqo.ownR.ints
         have h9 : runQ wk tab slow K (d + 20) 33 [out, .fn 34 [] []] H7 = some (.bool (outB (fun i j => smallB (ent (chgM A U) i j)) (chgM A U) 0), H7) := each_pure K (d + 19) H7 iq (fun i j r z hr hz => by
          show f34 slow K (runQ wk tab slow K (d + 18)) (i64 i) (i64 j) (.int .i64 z) H7 = _
          have := small_ok K (d + 17) H7 z
          simp only [f34, this, z_call, z_rest_bool, ent_of hr hz]) (by have := gQ.rows; omega) (fun r hr => by
           have h0 : chgM A U ≠ [] := fun e => by rw [e] at hr; cases hr
           have := gQ.rect r hr
           have := (gQ.cols h0).2
           omega)
         cases e8 : outB (fun i j => smallB (ent (chgM A U) i j)) (chgM A U) 0 with
         | true =>
          have he : chgE A U = 0 := by unfold chgE; rw [if_neg (fun h => h e0), if_neg n1, if_neg n2, if_neg (fun h => h e3), if_neg e4, if_neg (fun h => h e5), if_neg (fun h => h e6), e7, e8]; rfl
          obtain ⟨ws, hw⟩ := IntsW.of iq
          refine ⟨out, H7, ?_, F7, by rw [if_pos he]; exact iqo.mono F6.size⟩
          rw [e8] at h9
          rw [e7] at h8'
          simp only [f9_j2, z_cond, cond_false, z_lload1, h2, z_call, z_ext0, z_ext1, z_bst2, z_neq, b3, z_lload2, h3, z_eql, b4, h4, z_bst1, h5, b5, h6, h7, h8', b6, z_guard, z_not, Bool.not_true, h9, f9_j7, z_rest hw.1.good, he]
         | false =>
          have he : chgE A U = 3 := by unfold chgE; rw [if_neg (fun h => h e0), if_neg n1, if_neg n2, if_neg (fun h => h e3), if_neg e4, if_neg (fun h => h e5), if_neg (fun h => h e6), e7, e8]; rfl
          refine ⟨.slice nilSl, H7, ?_, F7, stop H7 he (by decide)⟩
          rw [e8] at h9
          rw [e7] at h8'
          simp only [f9_j2, z_cond, cond_false, z_lload1, h2, z_call, z_ext0, z_ext1, z_bst2, z_neq, b3, z_lload2, h3, z_eql, b4, h4, z_bst1, h5, b5, h6, h7, h8', b6, z_guard, z_not, Bool.not_true, Bool.not_false, cond_true, h9, f9_j7, he]
        | false =>
         have he : chgE A U = 3 := by unfold chgE; rw [if_neg (fun h => h e0), if_neg n1, if_neg n2, if_neg (fun h => h e3), if_neg e4, if_neg (fun h => h e5), if_neg (fun h => h e6), e7]; rfl
         refine ⟨.slice nilSl, H7, ?_, F7, stop H7 he (by decide)⟩
         rw [e7] at h8'
         simp only [f9_j2, z_cond, cond_false, z_lload1, h2, z_call, z_ext0, z_ext1, z_bst2, z_neq, b3, z_lload2, h3, z_eql, b4, h4, z_bst1, h5, b5, h6, h7, h8', b6, z_guard, z_not, Bool.not_false, cond_true, f9_j7, he]
       ·have b6 : (mulE (mulM U A) (trM U) != 0) = true := by simp [e6]
        have he : chgE A U = 3 := by unfold chgE; rw [if_neg (fun h => h e0), if_neg n1, if_neg n2, if_neg (fun h => h e3), if_neg e4, if_neg (fun h => h e5), if_pos e6]
        refine ⟨.slice nilSl, H7, ?_, F7, stop H7 he (by decide)⟩
        simp only [f9_j2, z_cond, cond_false, z_lload1, h2, z_call, z_ext0, z_ext1, z_bst2, z_neq, b3, z_lload2, h3, z_eql, b4, h4, z_bst1, h5, b5, h6, h7, h8', b6, z_guard, cond_true, f9_j7, he]
      ·have b5 : (mulE U A != 0) = true := by simp [e5]
       have he : chgE A U = 3 := by unfold chgE; rw [if_neg (fun h => h e0), if_neg n1, if_neg n2, if_neg (fun h => h e3), if_neg e4, if_pos e5]
       refine ⟨.slice nilSl, H4, ?_, F4, stop H4 he (by decide)⟩
       simp only [f9_j2, z_cond, cond_false, z_lload1, h2, z_call, z_ext0, z_ext1, z_bst2, z_neq, b3, z_lload2, h3, z_eql, b4, h4, z_bst1, h5, b5, cond_true, he]
    ·have b3 : (sqE U != 0) = true := by simp [e3]
     have he : chgE A U = sqE U := by unfold chgE; rw [if_neg (fun h => h e0), if_neg n1, if_neg n2, if_pos e3]
     obtain ⟨dl, rfl, _, _⟩ := n2'
     refine ⟨.slice nilSl, H2, ?_, Frame.trans f1 f2, stop H2 he e3⟩
     simp only [f9_j2, z_cond, cond_false, z_lload1, h2, z_call, z_ext0, z_ext1, z_bst2, z_neq, b3, cond_true, z_rest_int, he]
   ·rw [decide_eq_true (show colsOf U ≠ A.length from e2)]
    have he : chgE A U = 5 := by unfold chgE; rw [if_neg (fun h => h e0), if_neg n1, if_pos e2]
    exact ⟨.slice nilSl, H1, by rw [he]; exact five, f1, stop H1 he (by decide)⟩
  ·rw [decide_eq_true (show U.length ≠ A.length from e1), cond_true]
   have he : chgE A U = 5 := by unfold chgE; rw [if_neg (fun h => h e0), if_pos e1]
   exact ⟨.slice nilSl, H1, by rw [he]; exact five, f1, stop H1 he (by decide)⟩
 ·have b0 : (chkE A != 0) = true := by simp [e0]
  have he : chgE A U = chkE A := by unfold chgE; rw [if_pos e0]
  refine ⟨.slice nilSl, H1, ?_, f1, stop H1 he e0⟩
  simp only [f9, z_bbox, h1, z_call, z_neq, b0, z_cond, cond_true, z_rest_int, he]
theorem OwnRR.above {H H' : Heap} {L : List (List Int)} (h : OwnRR lo H v L) (hr : ∀ r, lo <= r -> H'.get r = H.get r) : OwnRR lo H' v L := by
 have key : ∀ {w : SV} {cs : List SV}, Own lo H w cs -> Own lo H' w cs := fun ⟨base, e, h⟩ => by
  refine ⟨base, e, ?_⟩
  rcases h with h | ⟨q, ver, e2, h1, h2⟩
  ·exact .inl h
  ·exact .inr ⟨q, ver, e2, h1, by rw [hr q h1]; exact h2⟩
 obtain ⟨ws, h1, h2, h3⟩ := h
 exact ⟨ws, key h1, h2, fun q w r hw hr' => key (h3 q w r hw hr')⟩
end Go.Sh.Of

/- MatSwaps: what is computed. -/
import Derived.Test.YtcecdmacoklhpaaSwapsA
set_option linter.unusedVariables false
set_option linter.unusedSimpArgs false
namespace Go.Sh.Of
open Go Go.Sh

/-! ### Text, in rows of its own -/
def OwnT (lo : Nat) (H : Heap) (v : SV) (R : List (List Int)) : Prop := ∃ ws, Own lo H v ws ∧ ws.length = R.length ∧ (∀ w ∈ ws, isSlice w) ∧ ∀ (q : Nat) (w : SV) (zs : List Int), ws[q]? = some w → R[q]? = some zs → Arr H w (strs (zs.map textZ))
theorem OwnT.texts {lo : Nat} {H : Heap} {v : SV} {R : List (List Int)} (h : OwnT lo H v R) : IsTexts H v (textRows R) := by
  obtain ⟨ws, h1, h2, _, h3⟩ := h
  refine ⟨ws, h1.arr, by simp [textRows, h2], fun q w cs hw hc => ?_⟩
  simp only [textRows, List.map_map, List.getElem?_map, Option.map_eq_some_iff] at hc
  obtain ⟨zs, hz, rfl⟩ := hc
  exact h3 q w zs hw hz
theorem strs_flat {zs : List Int} : ∀ c ∈ strs (zs.map textZ), ¬ isSlice c := fun c hc => by
  obtain ⟨s, _, rfl⟩ := List.mem_map.1 hc
  exact id
theorem textW_out (K : Nat) (hK : 100000 < K) (d : Nat) {H0 : Heap} {v : SV} {rows : List (List Int)} (hv : IsRows H0 v rows) (hbig : BigOk rows) (hrl : rows.length < 100000) : ∀ (m i fuel : Nat) (H : Heap) (out : SV) (ws : List SV), i + m = rows.length → m < fuel → Frame H0 H → Own H0.size H out ws → ws.length = i → (∀ w ∈ ws, isSlice w) → (∀ (q : Nat) (w : SV) (zs : List Int), ws[q]? = some w → rows[q]? = some zs → Arr H w (strs (zs.map textZ))) →
    ∃ r H', slow.loop4 (f9_l1 slow K (runQ wk tab slow K (d + 3))) fuel out v (i64 rows.length) (i64 i) H = some (r, H') ∧ Frame H0 H' ∧ OwnT H0.size H' r rows
  | 0, i, fuel, H, out, ws, him, hf, hfr, ho, hwl, hws, hdone => by
    obtain ⟨fuel, rfl⟩ : ∃ m, fuel = m + 1 := ⟨fuel - 1, by omega⟩
    have hi : i = rows.length := by omega
    refine ⟨out, H, ?_, hfr, ws, ho, by omega, hws, hdone⟩
    rw [z_loop4]
    have hlt : ¬ i < rows.length := by omega
    simp only [f9_l1, n_lss, decide_eq_false hlt, z_cond, cond_false, z_rest ho.arr.good]
  | m + 1, i, fuel, H, out, ws, him, hf, hfr, ho, hwl, hws, hdone => by
    obtain ⟨fuel, rfl⟩ : ∃ m, fuel = m + 1 := ⟨fuel - 1, by omega⟩
    have hlt : i < rows.length := by omega
    obtain ⟨zs, hz⟩ : ∃ zs, rows[i]? = some zs := ⟨_, List.getElem?_eq_getElem hlt⟩
    obtain ⟨hb1, hb2⟩ := hbig zs (List.mem_of_getElem? hz)
    obtain ⟨w, hld, hzs⟩ := (hv.fr hfr).load hz
    obtain ⟨out', H1, t', h1, f1, hrw1, ho1, ha1⟩ := mtext_in K hK d (H0 := H) (Hi := H) (Fr.refl _ _) hzs hb1 hb2 ho hfr.size (by omega) hws v rows.length i (by omega) (slow.loop4 (f9_l1 slow K (runQ wk tab slow K (d + 3))) fuel) zs.length 0 K H (.slice nilSl) (by omega) (by omega) (Fr.refl _ _) (by simpa using Own.nil H.size H)
    have hs' : isSlice t' := Arr.isSlice ha1
    obtain ⟨r, H2, h2, f2, ht⟩ := textW_out K hK d hv hbig hrl m (i + 1) fuel H1 out' (ws ++ [t']) (by omega) (by omega) (Fr.trans hfr f1) ho1 (by simp [hwl]) (fun q hq => by
      rcases List.mem_append.1 hq with hq | hq
      · exact hws q hq
      · rw [List.mem_singleton.1 hq]; exact hs') (fun q u zs' hu hz' => by
        by_cases hq : q < ws.length
        · rw [List.getElem?_append_left hq] at hu
          exact Arr.keep (hdone q u zs' hu hz') strs_flat (X := fun r => inRow out r) (fun r rw hr hg c hc => by rw [Own.cells ho hr hg] at hc; exact hws c hc) hrw1
        · have hq2 : q = ws.length := by have := (List.getElem?_eq_some_iff.1 hu).1; simp at this; omega
          subst hq2
          simp at hu
          subst hu
          rw [hwl, hz] at hz'
          cases hz'
          exact ha1)
    refine ⟨r, H2, ?_, f2, ht⟩
    rw [z_loop4]
    simp only [f9_l1, n_lss, decide_eq_true hlt, z_cond, cond_true, hld, hzs.len]
    rw [show (SV.int .i64 0) = i64 0 from rfl, h1]
    exact h2
theorem textW_ok (K : Nat) (hK : 100000 < K) (d : Nat) (H : Heap) {v : SV} {rows : List (List Int)} (hv : IsMat H v rows) (hbig : BigOk rows) (hrl : rows.length < 100000) :
    ∃ r H', runQ wk tab slow K (d + 4) 9 [v] H = some (r, H') ∧ Frame H H' ∧ OwnT H.size H' r rows := by
  obtain ⟨w, rfl, hr⟩ := hv
  show ∃ r H', f9 slow K (runQ wk tab slow K (d + 3)) (.agg [w]) H = _ ∧ _
  simp only [f9, z_bbox, z_lfld, z_lld0, hr.len]
  exact textW_out K hK d hr hbig hrl rows.length 0 K H (.slice nilSl) [] (by omega) (by omega) (Fr.refl _ _) (Own.nil _ _) rfl (fun w hw => by cases hw) (fun q w zs hw => by simp at hw)
theorem OwnT.swap {lo : Nat} {H : Heap} {v : SV} {R : List (List Int)} (h : OwnT lo H v R) {i j : Nat} {a b : List Int} (ha : R[i]? = some a) (hb : R[j]? = some b) :
    ∃ wi wj H' H'', (∀ k, slow.idx 1 v (i64 i) (fun p => slow.load 1 false p H k) = k wi) ∧ (∀ k, slow.idx 1 v (i64 j) (fun p => slow.load 1 false p H k) = k wj) ∧ (∀ k, slow.idx 1 v (i64 i) (fun p => slow.store 1 p wj H k) = k H') ∧ (∀ k, slow.idx 1 v (i64 j) (fun p => slow.store 1 p wi H' k) = k H'') ∧ Fr lo H H'' ∧ OwnT lo H'' v (swL R i j a b) := by
  obtain ⟨ws, o, l, s, t⟩ := h
  have li := (List.getElem?_eq_some_iff.1 ha).1
  have lj := (List.getElem?_eq_some_iff.1 hb).1
  obtain ⟨wi, hwi⟩ : ∃ w, ws[i]? = some w := ⟨_, List.getElem?_eq_getElem (by omega)⟩
  obtain ⟨wj, hwj⟩ : ∃ w, ws[j]? = some w := ⟨_, List.getElem?_eq_getElem (by omega)⟩
  have ti := t i wi a hwi ha
  have tj := t j wj b hwj hb
  obtain ⟨H1, s1, o1, f1, z1, r1⟩ := o.store (i := i) (by omega) (x := wj) tj.flat .i64
  obtain ⟨H2, s2, o2, f2, z2, r2⟩ := o1.store (i := j) (by simp; omega) (x := wi) ti.flat .i64
  refine ⟨wi, wj, H1, H2, fun k => o.arr.load hwi .i64 k, fun k => o.arr.load hwj .i64 k, s1, s2, Fr.trans f1 f2, (ws.set i wj).set j wi, o2, by rw [swL_len]; simp [l], fun w hw => ?_, fun q w zs hw hz => ?_⟩
  · rcases List.mem_or_eq_of_mem_set hw with hw | rfl
    · rcases List.mem_or_eq_of_mem_set hw with hw | rfl
      · exact s w hw
      · exact s _ (List.mem_of_getElem? hwj)
    · exact s _ (List.mem_of_getElem? hwi)
  · rw [swL_get ha hb] at hz
    rw [swap_ws hwj hwi] at hw
    have keep : ∀ (q : Nat) (w : SV) (zs : List Int), ws[q]? = some w → R[q]? = some zs → Arr H2 w (strs (zs.map textZ)) := fun q w zs hw hz => Arr.keep (t q w zs hw hz) strs_flat (X := fun r => inRow v r) (fun r row hr hg c hc => by rw [Own.cells o hr hg] at hc; exact s c hc) fun r hr _ => (r2 r hr).trans (r1 r hr)
    by_cases e1 : q = j
    · rw [if_pos e1] at hw hz
      cases hw
      exact keep i _ zs hwi hz
    · rw [if_neg e1] at hw hz
      by_cases e2 : q = i
      · rw [if_pos e2] at hw hz
        cases hw
        exact keep j _ zs hwj hz
      · rw [if_neg e2] at hw hz
        exact keep q w zs hw hz
theorem textsOk_rows {K : Nat} (hK : 1000000 < K) {R : List (List Int)} (hg : Good R) : TextsOk K (textRows R) := fun r hr s hs => by
  obtain ⟨zs, hz, rfl⟩ := List.mem_map.1 hr
  obtain ⟨z, hzz, rfl⟩ := List.mem_map.1 hs
  have h1 := hg.big zs hz z hzz
  have h2 := dec_bits h1
  have h3 := dec_len z.natAbs
  have : (textZ z).length ≤ 5000 := by
    unfold textZ
    split
    · simp only [List.length_cons]; omega
    · omega
  omega
theorem bigOk_good {R : List (List Int)} (hg : Good R) : BigOk R := fun r hr => by
  have h0 : R ≠ [] := fun e => by rw [e] at hr; cases hr
  have := hg.rect r hr
  have := (hg.cols h0).2
  exact ⟨by omega, hg.big r hr⟩
theorem det_w (K : Nat) (hK : 1000000 < K) (d : Nat) (H : Heap) {a : SV} {R : List (List Int)} (ha : IsMat H a R) (hg : Good R) :
    ∃ x y H', runQ wk tab slow K (d + 20) 11 [a] H = some (.tuple [.agg [x, y], .int .i64 (sqE R)], H') ∧ Frame H H' ∧ IsInt H' (.agg [x, y]) (if sqE R = 0 then detR R else 0) := by
  obtain ⟨r, H1, h1, g1, n1⟩ := det_ok K (by omega) (d + 11) H ha hg hg.big hg.rows (fun r hr => by
    have h0 : R ≠ [] := fun e => by rw [e] at hr; cases hr
    have := hg.rect r hr
    have := (hg.cols h0).2
    omega) hg.c16
  have n1' := n1
  obtain ⟨s, rfl, _, _⟩ := n1
  exact ⟨_, _, H1, h1, g1, n1'⟩
theorem detR_small {R : List (List Int)} (hg : Good R) (h : sqE R = 0) : (detR R).natAbs < 2 ^ 4096 := by
  have hw : wideB R = false ∧ R.length = colsOf R := by
    unfold sqE at h
    split at h
    · cases h
    · rename_i h2
      cases hb : wideB R with
      | false => exact ⟨rfl, Decidable.not_not.1 h2⟩
      | true => rw [hb] at h; cases h
  have hb := wide_bd hw.1
  rw [detR_det hw.2]
  have h1 : (det R.length (ent R)).natAbs ≤ (min R.length (colsOf R) * 2 ^ wMat 0 R) ^ R.length := det_abs (by omega) fun i k hi hk => hb.ent i k hi (by omega)
  by_cases h0 : R.length = 0
  · rw [h0] at h1 ⊢
    exact Nat.lt_of_le_of_lt h1 one_big
  · exact hb.small (by omega) (s := R.length) (by omega) h1
theorem swaps_j6 (K : Nat) (hK : 1000000 < K) (d : Nat) (H : Heap) {w dx dy : SV} {R : List (List Int)} {i j : Nat} (hm : IsMat H (.agg [w]) R) (hg : Good R) (hs : shapedB (R.map List.length) = true) (hi : i < R.length) (hj : j < R.length) (hne : i ≠ j) (h0 : sqE R = 0) (hd : IsInt H (.agg [dx, dy]) (detR R)) :
    ∃ H', f3_j6 slow K (runQ wk tab slow K (d + 20)) (i64 i) (i64 j) (.box [w]) (.box [dx, dy]) (.bool false) H = some (.bool true, H') := by
  obtain ⟨a, ha⟩ : ∃ a, R[i]? = some a := ⟨_, List.getElem?_eq_getElem hi⟩
  obtain ⟨b, hb⟩ : ∃ b, R[j]? = some b := ⟨_, List.getElem?_eq_getElem hj⟩
  obtain ⟨t, H1, h1, g1, o1⟩ := textW_ok K (by omega) (d + 16) H hm (bigOk_good hg) (by have := hg.rows; omega)
  rw [show d + 16 + 4 = d + 20 from rfl] at h1
  obtain ⟨wi, wj, H2, H3, l1, l2, s1, s2, f3, o3⟩ := o1.swap ha hb
  have hg' := swL_good hg ha hb
  have hs' : shapedB ((swL R i j a b).map List.length) = true := shapedB_iff.2 (.inr ⟨hg'.rows, fun r hr => by
    have h5 : swL R i j a b ≠ [] := fun e => by rw [e] at hr; cases hr
    have h6 := hg'.cols h5
    have h7 := hg'.rect r hr
    omega⟩)
  obtain ⟨p1, p2⟩ := parse_back hg' hs'
  obtain ⟨r, H4, h4, g4, m4⟩ := mparse_ok K hK (d + 12) H3 o3.texts (textsOk_rows hK hg') (by have := hg'.rows; simp [textRows]; omega)
  rw [show d + 12 + 8 = d + 20 from rfl, p1] at h4
  rw [p2] at m4
  have m4' := m4.mat
  obtain ⟨u, rfl⟩ := m4.agg
  obtain ⟨ex, ey, H5, h5, g5, n5⟩ := det_w K hK d H4 m4' hg'
  have hsw := swL_wide hg ha hb
  rw [hsw, h0] at h5
  rw [hsw, if_pos h0] at n5
  have hsq : R.length = colsOf R := by
    unfold sqE at h0
    split at h0
    · cases h0
    · rename_i h2; exact Decidable.not_not.1 h2
  rw [swL_det hg ha hb hne hsq] at n5
  have hsm := detR_small hg h0
  have F3 : Frame H H3 := Fr.trans g1 f3
  have F5 : Frame H H5 := Frame.trans F3 (Frame.trans g4 g5)
  obtain ⟨nd, h6, n6⟩ := zneg_ok K (d + 16) H5 (hd.fr F5) hsm
  rw [show d + 16 + 4 = d + 20 from rfl] at h6
  have h7 := zcmp_ok K (by omega) (d + 18) H5 n6 n5 (by rw [Int.natAbs_neg]; exact hsm) (by rw [Int.natAbs_neg]; exact hsm)
  refine ⟨H5, ?_⟩
  have hc0 : cmpZ (-detR R) (-detR R) = 0 := cmpZ_zero.2 rfl
  rw [hc0] at h7
  simp only [f3_j6, z_cond, cond_false, z_lload1, h1, z_call, l1, l2, s1, s2, h4, z_ext0, z_ext1, z_bst1, h5, z_bst2, z_eql, beq_self_eq_true, z_guard, cond_true, z_lload2, h6, h7, f3_j8, z_rest_bool]
theorem swaps_j4 (K : Nat) (hK : 1000000 < K) (d : Nat) (H : Heap) {v w : SV} {T : List (List (List UInt8))} {R : List (List Int)} {i j : Int} (hv : IsTexts H v T) (hm : IsMat H (.agg [w]) R) (hg : Good R) (hs : shapedB (R.map List.length) = true) (hl : R.length = T.length) :
    ∃ H', f3_j4 slow K (runQ wk tab slow K (d + 20)) v (.int .i64 i) (.int .i64 j) (.box [w]) (.bool false) H = some (.bool true, H') := by
  obtain ⟨dx, dy, H1, h1, g1, n1⟩ := det_w K hK d H hm hg
  have stop : ∀ x : SV, f3_j6 slow K (runQ wk tab slow K (d + 20)) (.int .i64 i) (.int .i64 j) (.box [w]) (.box [dx, dy]) (.bool true) H1 = some (.bool true, H1) := fun _ => rfl
  have hvl : ∀ k, slow.len v k = k (i64 T.length) := fun k => by
    have := (hv.fr g1).len k
    simpa using this
  simp only [f3_j4, z_cond, cond_false, z_lload1, h1, z_call, z_ext0, z_ext1, z_bst2, z_neq, z_guard, z_lss, hvl, z_geq, z_eql]
  by_cases h0 : sqE R = 0
  · have hb : (sqE R != 0) = false := by simp [h0]
    rw [hb, cond_false]
    by_cases c1 : i < 0
    · rw [decide_eq_true c1, cond_true]
      exact ⟨H1, stop v⟩
    · rw [decide_eq_false c1, cond_false]
      by_cases c2 : j < 0
      · rw [decide_eq_true c2, cond_true]
        exact ⟨H1, stop v⟩
      · rw [decide_eq_false c2, cond_false]
        by_cases c3 : i ≥ (T.length : Int)
        · rw [decide_eq_true c3, cond_true]
          exact ⟨H1, stop v⟩
        · rw [decide_eq_false c3, cond_false]
          by_cases c4 : j ≥ (T.length : Int)
          · rw [decide_eq_true c4, cond_true]
            exact ⟨H1, stop v⟩
          · rw [decide_eq_false c4, cond_false]
            obtain ⟨a, rfl⟩ : ∃ a : Nat, i = a := ⟨i.toNat, by omega⟩
            obtain ⟨b, rfl⟩ : ∃ b : Nat, j = b := ⟨j.toNat, by omega⟩
            by_cases c5 : a = b
            · have : ((a : Int) == (b : Int)) = true := by simp [c5]
              rw [this]
              exact ⟨H1, stop v⟩
            · have : ((a : Int) == (b : Int)) = false := by simp; omega
              rw [this]
              rw [if_pos h0] at n1
              exact swaps_j6 K hK d H1 (hm.fr g1) hg hs (by omega) (by omega) c5 h0 n1
  · have hb : (sqE R != 0) = true := by simp [h0]
    rw [hb, cond_true]
    exact ⟨H1, stop v⟩
theorem swaps_ok (K : Nat) (hK : 1000000 < K) (d : Nat) (H : Heap) {v : SV} {T : List (List (List UInt8))} (hv : IsTexts H v T) (hl : TextsOk K T) (i j : Int) :
    ∃ H', runQ wk tab slow K (d + 21) 3 [v, .int .i64 i, .int .i64 j] H = some (.bool true, H') := by
  have hw : ∀ H, runQ wk tab slow K (d + 20) 5 [] H = some (.bool true, H) := fun H => rfl
  show ∃ H', f3 slow K (runQ wk tab slow K (d + 20)) v (.int .i64 i) (.int .i64 j) H = _
  obtain ⟨u, H1, h1, ho, f1, _, _⟩ := z_lay1 (H := H) (lo := H.size) (Nat.le_refl _) (.slice nilSl) hv.flat
  simp only [f3, hw, z_call, z_not, Bool.not_true, z_guard, cond_false, h1]
  rcases beyond_ok K (by omega) (d + 19) H1 (Ts := [T]) ho.arr (by simp) rfl (fun i u T' hu hT => by
    match i with
    | 0 => simp at hu hT; subst hu hT; exact hv.fr f1
    | n + 1 => simp at hu) with h2 | ⟨hfew, h2⟩
  · refine ⟨H1, ?_⟩
    simp only [h2, z_call, f3_j1, z_cond, cond_true, hw, z_rest_bool]
  · have fa := hfew T (by simp)
    obtain ⟨w, H2, h3, f2, m1⟩ := lshaped_ok K hK (d + 11) H1 (hv.fr f1) hl (by have := fa.1; omega)
    rw [show d + 11 + 9 = d + 20 from rfl] at h3
    simp only [h2, z_call, f3_j1, z_cond, cond_false, h3, z_ext0, z_ext1, z_bst1, z_not]
    cases b1 : parseE T == 0 with
    | false => exact ⟨H2, by simp only [Bool.not_false, cond_true]⟩
    | true =>
      have hp : parseE T = 0 := by simpa using b1
      obtain ⟨hs, hlen⟩ := parse_shape hp
      have hg := parseM_good T
      obtain ⟨t, H3, h4, g3, o3⟩ := textW_ok K (by omega) (d + 16) H2 m1 (bigOk_good hg) (by have := hg.rows; omega)
      rw [show d + 16 + 4 = d + 20 from rfl] at h4
      obtain ⟨p1, p2⟩ := parse_back hg hs
      obtain ⟨r, H4, h5, g4, m4⟩ := mparse_ok K hK (d + 12) H3 o3.texts (textsOk_rows hK hg) (by have := hg.rows; simp [textRows]; omega)
      rw [show d + 12 + 8 = d + 20 from rfl, p1] at h5
      rw [p2] at m4
      have m4' := m4.mat
      obtain ⟨x, rfl⟩ := m4.agg
      have F4 := Frame.trans g3 g4
      have h6 := msame_ok K (by omega) (d + 17) H4 (m1.fr F4) m4' hg hg
      rw [show d + 17 + 3 = d + 20 from rfl, decide_eq_true rfl] at h6
      obtain ⟨H5, h7⟩ := swaps_j4 K hK d H4 (i := i) (j := j) ((hv.fr f1).fr (Frame.trans f2 F4)) (m1.fr F4) hg hs hlen
      refine ⟨H5, ?_⟩
      simp only [Bool.not_true, cond_false, z_lload1, h4, z_call, h5, z_ext0, z_ext1, z_bst1, z_neq, bne_self_eq_false, z_guard, h6, z_not]
      exact h7
end Go.Sh.Of

/- The reference's Ldl. -/
import Derived.Test.YtfjgbobjpjkamaaGreatLdlC
import Derived.Test.YtfjgbobjpjkamaaGreatRatB
set_option linter.unusedVariables false
set_option linter.unusedSimpArgs false
namespace Go.Sh.Of
open Go Go.Sh
theorem pcellR : PCell 3 IsQR where
 pos := by decide
 cell := fun {H e z} h => by
  obtain ⟨s, t, he, _⟩ := h
  cases he
  exact ⟨rfl, fun c hc kd n hcn => by subst hcn; simp at hc⟩
 agg := fun {H v z} h => by
  obtain ⟨s, t, rfl, _⟩ := h
  exact ⟨_, rfl⟩
 keep := fun {H H' v z} h {X} hX hro => IsQR.keep h hX hro
def IsQO (H : Heap) (v : SV) : Option Rat -> Prop
 | none => v = .agg [.bool false, .slice nilSl, .slice nilSl]
 | some q => IsQR H v q
theorem pcellO : PCell 3 IsQO where
 pos := by decide
 cell := fun {H e z} h => by
  cases z with
  | none =>
   cases h
   exact ⟨rfl, fun c hc kd n hcn => by subst hcn; simp at hc⟩
  | some q => exact pcellR.cell (z := q) h
 agg := fun {H v z} h => by
  cases z with
  | none => exact ⟨_, h⟩
  | some q => exact pcellR.agg (z := q) h
 keep := fun {H H' v z} h {X} hX hro => by
  cases z with
  | none => exact h
  | some q => exact pcellR.keep (z := q) h hX hro
theorem GRow.full {lo : Nat} {H : Heap} {w : SV} {f : Nat -> Option Rat} {g : Nat -> Rat} {n : Nat} (h : GRow 3 IsQO lo H w f n) (hg : ∀ t, t < n -> f t = some (g t)) : GRow 3 IsQR lo H w g n := by
 obtain ⟨els, h1, h2, h3, h4⟩ := h
 refine ⟨els, h1, h2, h3, fun t e he => ?_⟩
 have h5 := h4 t e he
 rw [hg t (by have := (List.getElem?_eq_some_iff.1 he).1; omega)] at h5
 exact h5
theorem orow_none {lo : Nat} {H : Heap} {v : SV} {n : Nat} (h : OwnS 3 lo H v (List.replicate n [.bool false, .slice nilSl, .slice nilSl])) : GRow 3 IsQO lo H v (fun _ => none) n :=
 ⟨_, h, by simp, fun e he => by
  rw [List.eq_of_mem_replicate he]
  exact pcellO.cell (H := H) (z := none) rfl, fun t e he => by
  rw [List.eq_of_mem_replicate (List.mem_of_getElem? he)]
  rfl⟩
def oD (A : Mx) (i j : Nat) : Nat -> Option Rat := fun x => if x < i \/ (x = i /\ i < j) then some (dR A x) else none
structure RSt (lo : Nat) (H : Heap) (lv dv : SV) (ws : List SV) (L : Nat -> Nat -> Rat) (D : Nat -> Option Rat) (r n : Nat) : Prop where
 l : GWork 3 IsQR lo H lv ws L r n
 d : GRow 3 IsQO lo H dv D n
 ap : ∀ (q : Nat) w r, ws[q]? = some w -> inRow w r -> ¬ inRow dv r
theorem RSt.fr {lo : Nat} {H H' : Heap} {lv dv : SV} {ws : List SV} {L : Nat -> Nat -> Rat} {D : Nat -> Option Rat} {r n : Nat} (h : RSt lo H lv dv ws L D r n) (hf : Frame H H') : RSt lo H' lv dv ws L D r n := ⟨h.l.fr pcellR hf, h.d.fr pcellO hf, h.ap⟩
theorem RSt.congr {lo : Nat} {H : Heap} {lv dv : SV} {ws : List SV} {L L' : Nat -> Nat -> Rat} {D D' : Nat -> Option Rat} {r n : Nat} (h : RSt lo H lv dv ws L D r n) (h1 : ∀ x y, x < r -> y < n -> L x y = L' x y) (h2 : ∀ x, x < n -> D x = D' x) : RSt lo H lv dv ws L' D' r n := ⟨h.l.congr h1, h.d.congr h2, h.ap⟩
theorem oD_step {A : Mx} {i x : Nat} : updF (oD A i i) i (some (dR A i)) x = oD A i (i + 1) x := by
 unfold updF oD
 by_cases h : x = i
 ·rw [if_pos h, if_pos (by omega), h]
 ·rw [if_neg h]
  by_cases g : x < i \/ (x = i /\ i < i)
  ·rw [if_pos g, if_pos (by omega)]
  ·rw [if_neg g, if_neg (by omega)]
theorem oD_more {A : Mx} {i j x : Nat} (hj : j < i) : oD A i j x = oD A i (j + 1) x := by
 unfold oD
 by_cases g : x < i \/ (x = i /\ i < j)
 ·rw [if_pos g, if_pos (by omega)]
 ·rw [if_neg g, if_neg (by omega)]
theorem oD_row {A : Mx} {i x : Nat} : oD A i (i + 1) x = oD A (i + 1) 0 x := by
 unfold oD
 by_cases g : x < i \/ (x = i /\ i < i + 1)
 ·rw [if_pos g, if_pos (by omega)]
 ·rw [if_neg g, if_neg (by omega)]
theorem oD_got {A : Mx} {i j x : Nat} (h : x < i) : oD A i j x = some (dR A x) := by
 unfold oD
 rw [if_pos (.inl h)]
theorem rldl_in (K : Nat) (hK : 3000000 < K) (d : Nat) {H0 : Heap} {av nv lv dv : SV} {ws : List SV} {A : List (List Int)} (hF : Form A) {i j : Nat} (hi : i < A.length) (hj : j <= i) (k46 : SV -> SV -> SV -> SV -> SV -> SV -> Heap -> Rs) : ∀ (m k fuel : Nat) (H : Heap) (b s e : SV), k + m = j -> m < fuel -> Frame H0 H -> RSt H0.size H lv dv ws (lP (ent A) i j) (oD (ent A) i j) (i + 1) A.length -> IsQR H (.agg [b, s, e]) (xR (ent A) k i j) ->
  ∃ H', slow.loop8 (f9_l9 slow K (runQ wk tab slow K (d + 9)) k46) fuel av nv lv dv (i64 i) (i64 j) (.box [b, s, e]) (i64 k) H = k46 av nv lv dv (i64 i) (i64 (j + 1)) H' /\ Frame H0 H' /\ RSt H0.size H' lv dv ws (lP (ent A) i (j + 1)) (oD (ent A) i (j + 1)) (i + 1) A.length
 | 0, k, fuel, H, b, s, e, hkm, hf, hfr, hS, hx => by
  obtain ⟨fuel, rfl⟩ : ∃ q, fuel = q + 1 := ⟨fuel - 1, by omega⟩
  have hk : k = j := by omega
  subst hk
  have h8 := hF.sq.n8
  have hlt : ¬ k < k := Nat.lt_irrefl k
  rw [z_loop8]
  by_cases he : k = i
  ·subst he
   rw [xR_pivot] at hx
   obtain ⟨H1, st, D1, fr1, _, hro, _⟩ := hS.d.store pcellO (z := some _) hi hx
   obtain ⟨els, hown⟩ := hS.d.own
   refine ⟨H1, ?_, Fr.trans hfr fr1, ⟨(hS.l.keepX pcellR (X := fun r => inRow dv r) hS.d.flat (fun r hr _ => hro r hr) (fun r hr => ownS_apartG (by decide) hS.l.out hown hr) hS.ap).congr fun x y _ _ => lP_diag, D1.congr fun x _ => oD_step, hS.ap⟩⟩
   simp only [f9_l9, n_lss, decide_eq_false hlt, z_cond, cond_false, n_eql, decide_true, cond_true, z_lload3, st, f9_j13, w_inc (show k < 1000000 by omega)]
  ·have hki : k < i := by omega
   have hkn : k < A.length := by omega
   obtain ⟨wi, hwi⟩ : ∃ w, ws[i]? = some w := ⟨_, List.getElem?_eq_getElem (by rw [hS.l.len]; omega)⟩
   obtain ⟨pi, pi1, pi2, pi3⟩ := Own.place hS.l.out hwi
   obtain ⟨g, g1, g2⟩ := hS.d.load pcellO hkn
   rw [oD_got hki] at g2
   obtain ⟨r, H1, h1, fr1, ir⟩ := rqdiv_ok K hK (d + 1) H hx g2 (xR_qm hF hkn hi hkn).qs (dR_qm hF hkn).qs (dR_ne hF hkn)
   rw [show d + 1 + 8 = d + 9 from rfl] at h1
   rw [xR_div (hF.nz (by omega)) (hF.nz (by omega))] at ir
   have hS1 := hS.fr fr1
   obtain ⟨x, y, rfl, _⟩ := id ir
   obtain ⟨H2, st, L2, fr2, _, hro, _⟩ := hS1.l.store pcellR hwi hkn ir
   have hrow := hS1.l.row i wi hwi
   refine ⟨H2, ?_, Fr.trans (Frame.trans hfr fr1) fr2, ⟨L2.congr fun x y _ _ => lP_step hki, (hS1.d.keep pcellO (X := fun r => inRow wi r) hrow.flat (fun r hr _ => hro r hr) fun r hr hr' => hS1.ap i wi r hwi hr' hr).congr fun x _ => oD_more hki, hS.ap⟩⟩
   simp only [f9_l9, n_lss, decide_eq_false hlt, z_cond, cond_false, n_eql, decide_eq_false he, pi1, pi2 H hS.l.out, z_lload3, g1, h1, z_call, z_ext0, z_ext1, st, pi3 H H1 _ hS.l.out fr1, f9_j13, w_inc (show k < 1000000 by omega)]
 | m + 1, k, fuel, H, b, s, e, hkm, hf, hfr, hS, hx => by
  obtain ⟨fuel, rfl⟩ : ∃ q, fuel = q + 1 := ⟨fuel - 1, by omega⟩
  have h8 := hF.sq.n8
  have hlt : k < j := by omega
  have hkn : k < A.length := by omega
  have hjn : j < A.length := by omega
  obtain ⟨w1, e1, hw1, a1, a2, a3⟩ := hS.l.load pcellR (i := i) (by omega) hkn
  rw [lP_got (by omega) (.inr ⟨rfl, hlt⟩)] at a3
  obtain ⟨g, g1, g2⟩ := hS.d.load pcellO hkn
  rw [oD_got (by omega)] at g2
  obtain ⟨p, H1, h1, fr1, ip⟩ := rqmul_ok K hK (d + 2) H a3 g2 (lR_qm hF hkn hi).qs (dR_qm hF hkn).qs
  rw [show d + 2 + 7 = d + 9 from rfl] at h1
  have hS1 := hS.fr fr1
  obtain ⟨w2, e2, hw2, b1, b2, b3⟩ := hS1.l.load pcellR (i := j) (by omega) hkn
  rw [lP_got hlt (by omega)] at b3
  have qp : QM (lR (ent A) i k * dR (ent A) k) := by
   rw [lR_dR hF hkn]
   exact xR_qm hF hkn hi hkn
  obtain ⟨x', H3, h3, fr3, ix⟩ := rqless_ok K hK d H1 (hx.fr fr1) ip b3 (xR_qm hF hkn hi hjn).qs qp.qs (lR_qm hF hkn hjn).qs (QM.mul qp (lR_qm hF hkn hjn))
  rw [xR_next hF hi hjn hkn] at ix
  obtain ⟨p2, p3, rfl, _⟩ := id ip
  obtain ⟨x2, x3, rfl, _⟩ := id ix
  obtain ⟨H4, h4, g4⟩ := rldl_in K hK d hF hi hj k46 m (k + 1) fuel H3 _ _ _ (by omega) (by omega) (Frame.trans hfr (Frame.trans fr1 fr3)) (hS1.fr fr3) ix
  refine ⟨H4, ?_, g4⟩
  rw [z_loop8]
  simp only [f9_l9, n_lss, decide_eq_true hlt, z_cond, cond_true, a1, a2, g1, h1, z_call, z_ext0, z_ext1, z_bst3, z_lload3, b1, b2, h3, w_inc (show k < 1000000 by omega)]
  exact h4
theorem rldl_mid (K : Nat) (hK : 3000000 < K) (d : Nat) {H0 : Heap} {av lv dv : SV} {ws : List SV} {A : List (List Int)} (ha : IsInts2 H0 av A) (hF : Form A) {i : Nat} (hi : i < A.length) (k10 : SV -> SV -> SV -> SV -> SV -> Heap -> Rs) : ∀ (m j fuel : Nat) (H : Heap), j + m = i + 1 -> m < fuel -> Frame H0 H -> RSt H0.size H lv dv ws (lP (ent A) i j) (oD (ent A) i j) (i + 1) A.length ->
  ∃ H', slow.loop6 (f9_l7 slow K (runQ wk tab slow K (d + 9)) k10) fuel av (i64 A.length) lv dv (i64 i) (i64 j) H = k10 av (i64 A.length) lv dv (i64 (i + 1)) H' /\ Frame H0 H' /\ RSt H0.size H' lv dv ws (lP (ent A) (i + 1) 0) (oD (ent A) (i + 1) 0) (i + 1) A.length
 | 0, j, fuel, H, hjm, hf, hfr, hS => by
  obtain ⟨fuel, rfl⟩ : ∃ q, fuel = q + 1 := ⟨fuel - 1, by omega⟩
  have h8 := hF.sq.n8
  have hlt : ¬ j <= i := by omega
  have e : j = i + 1 := by omega
  subst e
  refine ⟨H, ?_, hfr, hS.congr (fun x y _ _ => lP_row) fun x _ => oD_row⟩
  rw [z_loop6]
  simp only [f9_l7, n_leq, decide_eq_false hlt, z_cond, cond_false, w_inc (show i < 1000000 by omega)]
 | m + 1, j, fuel, H, hjm, hf, hfr, hS => by
  obtain ⟨fuel, rfl⟩ : ∃ q, fuel = q + 1 := ⟨fuel - 1, by omega⟩
  have h8 := hF.sq.n8
  have hlt : j <= i := by omega
  obtain ⟨r, a1, a2, a3, a4⟩ := hF.sq.at hi (show j < A.length by omega)
  obtain ⟨w, l1, l2⟩ := ints_entry (IsRowsC.fr ha hfr) a1 a2
  obtain ⟨x, H1, h1, fr1, ix⟩ := rqof_ok K hK (d + 2) H (z := ent A i j) (by omega) (by omega)
  rw [show d + 2 + 7 = d + 9 from rfl] at h1
  rw [<- xR_zero] at ix
  obtain ⟨x2, x3, rfl, _⟩ := id ix
  obtain ⟨H2, h3, fr2, hS2⟩ := rldl_in K hK d hF hi hlt (slow.loop6 (f9_l7 slow K (runQ wk tab slow K (d + 9)) k10) fuel) (av := av) (nv := i64 A.length) j 0 K H1 _ _ _ (by omega) (by omega) (Frame.trans hfr fr1) (hS.fr fr1) ix
  obtain ⟨H3, h4, g4⟩ := rldl_mid K hK d ha hF hi k10 m (j + 1) fuel H2 (by omega) (by omega) fr2 hS2
  refine ⟨H3, ?_, g4⟩
  rw [z_loop6]
  simp only [f9_l7, n_leq, decide_eq_true hlt, z_cond, cond_true, l1, l2, h1, z_call, z_bst3]
  exact h3.trans h4
theorem rldl_row (K : Nat) (hK : 3000000 < K) (d : Nat) {Hi : Heap} {A : List (List Int)} (h8 : A.length <= 8) {av lv dv row : SV} {i : Nat} (hi : i < A.length) (k10 : SV -> SV -> SV -> SV -> SV -> Heap -> Rs) : ∀ (m j fuel : Nat) (H : Heap) (f : Nat -> Option Rat), j + m = A.length -> m < fuel -> Frame Hi H -> GRow 3 IsQO Hi.size H row f A.length -> (∀ q, q < j -> f q = some 0) ->
  ∃ H', slow.loop7 (f9_l3 slow K (runQ wk tab slow K (d + 9)) k10) fuel av (i64 A.length) lv dv (i64 i) row (i64 j) H = (slow.hbuild 1 [.slice nilSl] [(0, 1)] [row] H' fun x35 H36 => slow.append 1 24 lv x35 H36 fun x37 H38 => slow.loop6 (f9_l7 slow K (runQ wk tab slow K (d + 9)) k10) K av (i64 A.length) x37 dv (i64 i) (.int .i64 0) H38) /\ Frame Hi H' /\ GRow 3 IsQR Hi.size H' row (lP (ent A) i 0 i) A.length
 | 0, j, fuel, H, f, hjm, hf, hfr, hr, hd => by
  obtain ⟨fuel, rfl⟩ : ∃ q, fuel = q + 1 := ⟨fuel - 1, by omega⟩
  have hlt : ¬ j < A.length := by omega
  obtain ⟨x, H1, h1, fr1, ix⟩ := rqof_ok K hK (d + 2) H (z := 1) (by decide) (by decide)
  rw [show d + 2 + 7 = d + 9 from rfl] at h1
  obtain ⟨x2, x3, rfl, _⟩ := id ix
  obtain ⟨H2, st, g, fr2, _⟩ := (hr.fr pcellO fr1).store pcellO (z := some _) hi ix
  refine ⟨H2, ?_, Fr.trans (Frame.trans hfr fr1) fr2, g.full fun t ht => ?_⟩
  ·rw [z_loop7]
   simp only [f9_l3, n_lss, decide_eq_false hlt, z_cond, cond_false, h1, z_call, st]
  ·unfold updF lP
   by_cases e : t = i
   ·rw [if_pos e, if_pos e.symm]
    rfl
   ·rw [if_neg e, if_neg (Ne.symm e), if_neg (by omega), hd t (by omega)]
 | m + 1, j, fuel, H, f, hjm, hf, hfr, hr, hd => by
  obtain ⟨fuel, rfl⟩ : ∃ q, fuel = q + 1 := ⟨fuel - 1, by omega⟩
  have hlt : j < A.length := by omega
  obtain ⟨x, H1, h1, fr1, ix⟩ := rqof_ok K hK (d + 2) H (z := 0) (by decide) (by decide)
  rw [show d + 2 + 7 = d + 9 from rfl] at h1
  obtain ⟨x2, x3, rfl, _⟩ := id ix
  obtain ⟨H2, st, g, fr2, _⟩ := (hr.fr pcellO fr1).store pcellO (z := some _) hlt ix
  obtain ⟨H3, h3, g3⟩ := rldl_row K hK d h8 hi k10 m (j + 1) fuel H2 _ (by omega) (by omega) (Fr.trans (Frame.trans hfr fr1) fr2) g (fun q hq => by
   unfold updF
   by_cases e : q = j
   ·rw [if_pos e]
    rfl
   ·rw [if_neg e]
    exact hd q (by omega))
  refine ⟨H3, ?_, g3⟩
  rw [z_loop7]
  simp only [f9_l3, n_lss, decide_eq_true hlt, z_cond, cond_true, h1, z_call, st, w_inc (show j < 1000000 by omega)]
  exact h3
theorem rldl_out (K : Nat) (hK : 3000000 < K) (d : Nat) {H0 : Heap} {av dv : SV} {A : List (List Int)} (ha : IsInts2 H0 av A) (hF : Form A) : ∀ (m i fuel : Nat) (H : Heap) (lv : SV) (ws : List SV), i + m = A.length -> m < fuel -> Frame H0 H -> RSt H0.size H lv dv ws (lP (ent A) i 0) (oD (ent A) i 0) i A.length ->
  ∃ lv' ws' H', slow.loop5 (f9_l1 slow K (runQ wk tab slow K (d + 9))) fuel av (i64 A.length) lv dv (i64 i) H = some (.tuple [lv', dv], H') /\ Frame H0 H' /\ RSt H0.size H' lv' dv ws' (lP (ent A) A.length 0) (oD (ent A) A.length 0) A.length A.length
 | 0, i, fuel, H, lv, ws, him, hf, hfr, hS => by
  obtain ⟨fuel, rfl⟩ : ∃ q, fuel = q + 1 := ⟨fuel - 1, by omega⟩
  have hlt : ¬ i < A.length := by omega
  have e : i = A.length := by omega
  subst e
  refine ⟨lv, ws, H, ?_, hfr, hS⟩
  rw [z_loop5]
  simp only [f9_l1, n_lss, decide_eq_false hlt, z_cond, cond_false, z_rest hS.l.out.arr.good, z_rest hS.d.good]
 | m + 1, i, fuel, H, lv, ws, him, hf, hfr, hS => by
  obtain ⟨fuel, rfl⟩ : ∃ q, fuel = q + 1 := ⟨fuel - 1, by omega⟩
  have h8 := hF.sq.n8
  have hlt : i < A.length := by omega
  obtain ⟨row, H1, h1, o1, fr1, _, _⟩ := z_makeS (H := H) (lo := H.size) (Nat.le_refl _) 3 56 (by decide) [.bool false, .slice nilSl, .slice nilSl] rfl A.length (by omega) (roomy_small (by omega)) .i64 .i64
  obtain ⟨H2, h2, fr2, g2⟩ := rldl_row K hK d (Hi := H) h8 hlt (slow.loop5 (f9_l1 slow K (runQ wk tab slow K (d + 9))) fuel) (av := av) (lv := lv) (dv := dv) A.length 0 K H1 _ (by omega) (by omega) fr1 (orow_none o1) fun q hq => by omega
  obtain ⟨l', H3, h3, W3, fr3, hro⟩ := hS.l.push pcellR hfr.size fr2 g2 (by omega)
  have hd2 := hS.d.fr pcellO fr2
  have hl2 := hS.l.fr pcellR fr2
  obtain ⟨els, hown⟩ := hd2.own
  have hd3 : GRow 3 IsQO H0.size H3 dv (oD (ent A) i 0) A.length := hd2.keep pcellO (X := fun r => inRow lv r) (fun r rw hr hg c hc => by
   rw [Own.cells hl2.out hr hg] at hc
   exact isSlice_not_int (hl2.slices c hc)) hro fun r hr hr' => ownS_apartG (by decide) hl2.out hown hr' hr
  have hS3 : RSt H0.size H3 l' dv (ws ++ [row]) (lP (ent A) i 0) (oD (ent A) i 0) (i + 1) A.length := ⟨W3, hd3, fun q w r hw hr hr' => by
   by_cases hq : q < ws.length
   ·rw [List.getElem?_append_left hq] at hw
    exact hS.ap q w r hw hr hr'
   ·have hq2 : q = ws.length := by have := (List.getElem?_eq_some_iff.1 hw).1; simp at this; omega
    subst hq2
    simp at hw
    subst hw
    have a := (g2.bd hr).1
    have b := (hS.d.bd hr').2
    omega⟩
  obtain ⟨H4, h4, fr4, hS4⟩ := rldl_mid K hK d ha hF hlt (slow.loop5 (f9_l1 slow K (runQ wk tab slow K (d + 9))) fuel) (i + 1) 0 K H3 (by omega) (by omega) (Fr.trans hfr fr3) hS3
  obtain ⟨lv', ws', H5, h5, g5⟩ := rldl_out K hK d ha hF m (i + 1) fuel H4 l' (ws ++ [row]) (by omega) (by omega) fr4 hS4
  refine ⟨lv', ws', H5, ?_, g5⟩
  rw [z_loop5]
  simp only [f9_l1, n_lss, decide_eq_true hlt, z_cond, cond_true, h1]
  rw [show (SV.int .i64 0) = i64 0 from rfl, h2, h3]
  exact h4.trans h5
theorem rldl_run (K d : Nat) (H : Heap) (v : SV) : runQ wk tab slow K (d + 10) 9 [v] H = f9 slow K (runQ wk tab slow K (d + 9)) v H := Eq.trans rfl rfl
theorem rldl_ok (K : Nat) (hK : 3000000 < K) (d : Nat) (H : Heap) {av : SV} {A : List (List Int)} (ha : IsInts2 H av A) (hF : Form A) :
  ∃ lv dv ws H', runQ wk tab slow K (d + 10) 9 [av] H = some (.tuple [lv, dv], H') /\ Frame H H' /\ GWork 3 IsQR H.size H' lv ws (lF (ent A)) A.length A.length /\ GRow 3 IsQR H.size H' dv (dR (ent A)) A.length := by
 have h8 := hF.sq.n8
 obtain ⟨dv, H1, h1, o1, fr1, _, _⟩ := z_makeS (H := H) (lo := H.size) (Nat.le_refl _) 3 56 (by decide) [.bool false, .slice nilSl, .slice nilSl] rfl A.length (by omega) (roomy_small (by omega)) .i64 .i64
 obtain ⟨lv, ws, H2, h2, fr2, hS⟩ := rldl_out K hK d (H0 := H) ha hF A.length 0 K H1 (.slice nilSl) [] (by omega) (by omega) fr1 ⟨⟨Own.nil _ _, rfl, fun i w hw => by simp at hw, fun i j w w' r hw => by simp at hw⟩, (orow_none o1).congr fun x _ => by
  unfold oD
  rw [if_neg (by omega)], fun q w r hw => by simp at hw⟩
 refine ⟨lv, dv, ws, H2, ?_, fr2, hS.l.congr fun x y hx hy => ?_, hS.d.full fun t ht => oD_got ht⟩
 ·rw [rldl_run]
  simp only [f9, ints_len ha, h1]
  exact h2
 ·unfold lP lF
  by_cases e : x = y
  ·rw [if_pos e, if_pos e]
  ·rw [if_neg e, if_neg e]
   by_cases g : y < x
   ·rw [if_pos g, if_pos ⟨g, .inl hx⟩]
   ·rw [if_neg g, if_neg (by omega)]
end Go.Sh.Of

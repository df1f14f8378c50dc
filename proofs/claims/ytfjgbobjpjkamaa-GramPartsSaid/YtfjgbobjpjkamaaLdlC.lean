/- The program's Ldl: the loops. -/
import Derived.Test.YtfjgbobjpjkamaaLdlB
set_option linter.unusedVariables false
set_option linter.unusedSimpArgs false
namespace Go.Sh.Of
open Go Go.Sh
def lP (A : Mx) (i j : Nat) : Nat -> Nat -> Rat := fun x y => if x = y then 1 else if y < x /\ (x < i \/ (x = i /\ y < j)) then lR A x y else 0
def dP (A : Mx) (i j : Nat) : Nat -> Rat := fun x => if x < i \/ (x = i /\ i < j) then dR A x else 0
structure LSt (lo : Nat) (H : Heap) (lv dv : SV) (ws : List SV) (L : Nat -> Nat -> Rat) (D : Nat -> Rat) (n : Nat) : Prop where
 l : GWork 3 IsQ lo H lv ws L n n
 d : GRow 3 IsQ lo H dv D n
 ap : ∀ (q : Nat) w r, ws[q]? = some w -> inRow w r -> ¬ inRow dv r
theorem LSt.fr {lo : Nat} {H H' : Heap} {lv dv : SV} {ws : List SV} {L : Nat -> Nat -> Rat} {D : Nat -> Rat} {n : Nat} (h : LSt lo H lv dv ws L D n) (hf : Frame H H') : LSt lo H' lv dv ws L D n := ⟨h.l.fr pcellQ hf, h.d.fr pcellQ hf, h.ap⟩
theorem LSt.congr {lo : Nat} {H : Heap} {lv dv : SV} {ws : List SV} {L L' : Nat -> Nat -> Rat} {D D' : Nat -> Rat} {n : Nat} (h : LSt lo H lv dv ws L D n) (h1 : ∀ x y, x < n -> y < n -> L x y = L' x y) (h2 : ∀ x, x < n -> D x = D' x) : LSt lo H lv dv ws L' D' n := ⟨h.l.congr h1, h.d.congr h2, h.ap⟩
theorem lP_step {A : Mx} {i j x y : Nat} (hj : j < i) : updG (lP A i j) i j (lR A i j) x y = lP A i (j + 1) x y := by
 unfold updG lP
 by_cases h : x = i /\ y = j
 ·obtain ⟨rfl, rfl⟩ := h
  rw [if_pos ⟨rfl, rfl⟩, if_neg (by omega), if_pos (by omega)]
 ·rw [if_neg h]
  by_cases e : x = y
  ·rw [if_pos e, if_pos e]
  ·rw [if_neg e, if_neg e]
   by_cases g : y < x /\ (x < i \/ (x = i /\ y < j))
   ·rw [if_pos g, if_pos (by omega)]
   ·rw [if_neg g, if_neg (by omega)]
theorem lP_diag {A : Mx} {i x y : Nat} : lP A i i x y = lP A i (i + 1) x y := by
 unfold lP
 by_cases e : x = y
 ·rw [if_pos e, if_pos e]
 ·rw [if_neg e, if_neg e]
  by_cases g : y < x /\ (x < i \/ (x = i /\ y < i))
  ·rw [if_pos g, if_pos (by omega)]
  ·rw [if_neg g, if_neg (by omega)]
theorem lP_row {A : Mx} {i x y : Nat} : lP A i (i + 1) x y = lP A (i + 1) 0 x y := by
 unfold lP
 by_cases e : x = y
 ·rw [if_pos e, if_pos e]
 ·rw [if_neg e, if_neg e]
  by_cases g : y < x /\ (x < i \/ (x = i /\ y < i + 1))
  ·rw [if_pos g, if_pos (by omega)]
  ·rw [if_neg g, if_neg (by omega)]
theorem dP_step {A : Mx} {i x : Nat} : updF (dP A i i) i (dR A i) x = dP A i (i + 1) x := by
 unfold updF dP
 by_cases h : x = i
 ·rw [if_pos h, if_pos (by omega), h]
 ·rw [if_neg h]
  by_cases g : x < i \/ (x = i /\ i < i)
  ·rw [if_pos g, if_pos (by omega)]
  ·rw [if_neg g, if_neg (by omega)]
theorem dP_more {A : Mx} {i j x : Nat} (hj : j < i) : dP A i j x = dP A i (j + 1) x := by
 unfold dP
 by_cases g : x < i \/ (x = i /\ i < j)
 ·rw [if_pos g, if_pos (by omega)]
 ·rw [if_neg g, if_neg (by omega)]
theorem dP_row {A : Mx} {i x : Nat} : dP A i (i + 1) x = dP A (i + 1) 0 x := by
 unfold dP
 by_cases g : x < i \/ (x = i /\ i < i + 1)
 ·rw [if_pos g, if_pos (by omega)]
 ·rw [if_neg g, if_neg (by omega)]
theorem lP_got {A : Mx} {i j x y : Nat} (hy : y < x) (h : x < i \/ (x = i /\ y < j)) : lP A i j x y = lR A x y := by
 unfold lP
 rw [if_neg (by omega), if_pos ⟨hy, h⟩]
theorem dP_got {A : Mx} {i j x : Nat} (h : x < i) : dP A i j x = dR A x := by
 unfold dP
 rw [if_pos (.inl h)]
theorem xR_next {A : List (List Int)} (hF : Form A) {i j k : Nat} (hi : i < A.length) (hj : j < A.length) (hk : k < A.length) : xR (ent A) k i j - lR (ent A) i k * dR (ent A) k * lR (ent A) j k = xR (ent A) (k + 1) i j :=
 (xR_step hF.sym hi hj hk (hF.nz (by omega)) (hF.nz (by omega))).symm
theorem ldl_in (K : Nat) (hK : 200000 < K) (d : Nat) {H0 : Heap} {av lv dv u w t : SV} {ws : List SV} {A : List (List Int)} (hF : Form A) {i j : Nat} (hi : i < A.length) (hj : j <= i) (k39 : SV -> SV -> SV -> SV -> SV -> SV -> SV -> SV -> Heap -> Rs) : ∀ (m k fuel : Nat) (H : Heap) (b s e : SV), k + m = j -> m < fuel -> Frame H0 H -> LSt H0.size H lv dv ws (lP (ent A) i j) (dP (ent A) i j) A.length -> IsQ H (.agg [b, s, e]) (xR (ent A) k i j) ->
  ∃ H', slow.loop12 (f6_l6 slow K (runQ wk tab slow K (d + 9)) k39) fuel av lv dv (i64 i) (i64 j) (.box [b, s, e]) u w t (i64 j) (i64 j) (i64 k) H = k39 av lv dv (i64 i) u w t (i64 (j + 1)) H' /\ Frame H0 H' /\ LSt H0.size H' lv dv ws (lP (ent A) i (j + 1)) (dP (ent A) i (j + 1)) A.length
 | 0, k, fuel, H, b, s, e, hkm, hf, hfr, hS, hx => by
  obtain ⟨fuel, rfl⟩ : ∃ q, fuel = q + 1 := ⟨fuel - 1, by omega⟩
  have hk : k = j := by omega
  subst hk
  have h8 := hF.sq.n8
  have hlt : ¬ k < k := Nat.lt_irrefl k
  rw [z_loop12]
  by_cases he : i = k
  ·subst he
   rw [xR_pivot] at hx
   obtain ⟨H1, st, D1, fr1, _, hro, _⟩ := hS.d.store pcellQ hi hx
   obtain ⟨els, hown⟩ := hS.d.own
   refine ⟨H1, ?_, Fr.trans hfr fr1, ⟨(hS.l.keepX pcellQ (X := fun r => inRow dv r) hS.d.flat (fun r hr _ => hro r hr) (fun r hr => ownS_apartG (by decide) hS.l.out hown hr) hS.ap).congr fun x y _ _ => lP_diag, D1.congr fun x _ => dP_step, hS.ap⟩⟩
   simp only [f6_l6, n_lss, decide_eq_false hlt, z_cond, cond_false, n_eql, decide_true, cond_true, z_lload3, st, f6_j10, w_inc (show i < 1000000 by omega)]
  ·have hki : k < i := by omega
   have hkn : k < A.length := by omega
   obtain ⟨wi, hwi⟩ : ∃ w, ws[i]? = some w := ⟨_, List.getElem?_eq_getElem (by rw [hS.l.len]; exact hi)⟩
   obtain ⟨pi, pi1, pi2, pi3⟩ := Own.place hS.l.out hwi
   obtain ⟨g, g1, g2⟩ := hS.d.load pcellQ hkn
   rw [dP_got hki] at g2
   obtain ⟨r, H1, h1, fr1, ir⟩ := qdiv_ok K hK (d + 1) H hx g2 (xR_qm hF hkn hi hkn).qs (dR_qm hF hkn).qs (dR_ne hF hkn)
   rw [show d + 1 + 8 = d + 9 from rfl] at h1
   rw [xR_div (hF.nz (by omega)) (hF.nz (by omega))] at ir
   have hS1 := hS.fr fr1
   obtain ⟨x, y, z, rfl, _⟩ := id ir
   obtain ⟨H2, st, L2, fr2, _, hro, _⟩ := hS1.l.store pcellQ hwi hkn ir
   have hrow := hS1.l.row i wi hwi
   refine ⟨H2, ?_, Fr.trans (Frame.trans hfr fr1) fr2, ⟨L2.congr fun x y _ _ => lP_step hki, (hS1.d.keep pcellQ (X := fun r => inRow wi r) hrow.flat (fun r hr _ => hro r hr) fun r hr hr' => hS1.ap i wi r hwi hr' hr).congr fun x _ => dP_more hki, hS.ap⟩⟩
   simp only [f6_l6, n_lss, decide_eq_false hlt, z_cond, cond_false, n_eql, decide_eq_false he, pi1, pi2 H hS.l.out, z_lload3, g1, h1, z_call, z_ext0, z_ext1, st, pi3 H H1 _ hS.l.out fr1, f6_j10, w_inc (show k < 1000000 by omega)]
 | m + 1, k, fuel, H, b, s, e, hkm, hf, hfr, hS, hx => by
  obtain ⟨fuel, rfl⟩ : ∃ q, fuel = q + 1 := ⟨fuel - 1, by omega⟩
  have h8 := hF.sq.n8
  have hlt : k < j := by omega
  have hkn : k < A.length := by omega
  have hjn : j < A.length := by omega
  obtain ⟨w1, e1, hw1, a1, a2, a3⟩ := hS.l.load pcellQ hi hkn
  rw [lP_got (by omega) (.inr ⟨rfl, hlt⟩)] at a3
  obtain ⟨g, g1, g2⟩ := hS.d.load pcellQ hkn
  rw [dP_got (by omega)] at g2
  obtain ⟨p, H1, h1, fr1, ip⟩ := qmul_ok K hK (d + 1) H a3 g2 (lR_qm hF hkn hi).qs (dR_qm hF hkn).qs
  rw [show d + 1 + 8 = d + 9 from rfl] at h1
  have hS1 := hS.fr fr1
  obtain ⟨w2, e2, hw2, b1, b2, b3⟩ := hS1.l.load pcellQ hjn hkn
  rw [lP_got hlt (by omega)] at b3
  have qp : QM (lR (ent A) i k * dR (ent A) k) := by
   rw [lR_dR hF hkn]
   exact xR_qm hF hkn hi hkn
  obtain ⟨y, H2, h2, fr2, iy⟩ := qmul_ok K hK (d + 1) H1 ip b3 qp.qs (lR_qm hF hkn hjn).qs
  rw [show d + 1 + 8 = d + 9 from rfl] at h2
  obtain ⟨x', H3, h3, fr3, ix⟩ := qsub_ok K hK (d + 1) H2 ((hx.fr fr1).fr fr2) iy (xR_qm hF hkn hi hjn).qs (QM.mul qp (lR_qm hF hkn hjn))
  rw [show d + 1 + 8 = d + 9 from rfl] at h3
  rw [xR_next hF hi hjn hkn] at ix
  obtain ⟨p1, p2, p3, rfl, _⟩ := id ip
  obtain ⟨y1, y2, y3, rfl, _⟩ := id iy
  obtain ⟨x1, x2, x3, rfl, _⟩ := id ix
  obtain ⟨H4, h4, g4⟩ := ldl_in K hK d hF hi hj k39 m (k + 1) fuel H3 x1 x2 x3 (by omega) (by omega) (Frame.trans hfr (Frame.trans fr1 (Frame.trans fr2 fr3))) ((hS1.fr fr2).fr fr3) ix
  refine ⟨H4, ?_, g4⟩
  rw [z_loop12]
  simp only [f6_l6, n_lss, decide_eq_true hlt, z_cond, cond_true, a1, a2, g1, h1, z_call, z_ext0, z_ext1, z_bst3, z_lload3, b1, b2, h2, h3, w_inc (show k < 1000000 by omega)]
  exact h4
theorem ldl_mid (K : Nat) (hK : 200000 < K) (d : Nat) {H0 : Heap} {av lv dv : SV} {ws : List SV} {A : List (List Int)} (ha : IsInts2 H0 av A) (hF : Form A) {i : Nat} (hi : i < A.length) (k27 : SV -> SV -> SV -> SV -> SV -> Heap -> Rs) : ∀ (m j fuel : Nat) (H : Heap), j + m = i + 1 -> m < fuel -> Frame H0 H -> LSt H0.size H lv dv ws (lP (ent A) i j) (dP (ent A) i j) A.length ->
  ∃ H', slow.loop8 (f6_l4 slow K (runQ wk tab slow K (d + 9)) k27) fuel av lv dv (i64 i) (i64 A.length) (i64 i) (i64 (i + 1)) (i64 j) H = k27 av lv dv (i64 A.length) (i64 (i + 1)) H' /\ Frame H0 H' /\ LSt H0.size H' lv dv ws (lP (ent A) (i + 1) 0) (dP (ent A) (i + 1) 0) A.length
 | 0, j, fuel, H, hjm, hf, hfr, hS => by
  obtain ⟨fuel, rfl⟩ : ∃ q, fuel = q + 1 := ⟨fuel - 1, by omega⟩
  have h8 := hF.sq.n8
  have hlt : ¬ j < i + 1 := by omega
  have e : j = i + 1 := by omega
  subst e
  refine ⟨H, ?_, hfr, hS.congr (fun x y _ _ => lP_row) fun x _ => dP_row⟩
  rw [z_loop8]
  simp only [f6_l4, n_lss, decide_eq_false hlt, z_cond, cond_false, w_inc (show i < 1000000 by omega)]
 | m + 1, j, fuel, H, hjm, hf, hfr, hS => by
  obtain ⟨fuel, rfl⟩ : ∃ q, fuel = q + 1 := ⟨fuel - 1, by omega⟩
  have h8 := hF.sq.n8
  have hlt : j < i + 1 := by omega
  obtain ⟨r, a1, a2, a3, a4⟩ := hF.sq.at hi (show j < A.length by omega)
  obtain ⟨w, l1, l2⟩ := ints_entry (IsRowsC.fr ha hfr) a1 a2
  obtain ⟨z, H1, h1, fr1, iz⟩ := zof_ok K (by omega) (d + 6) H (z := ent A i j) (by omega) (by omega)
  rw [show d + 6 + 3 = d + 9 from rfl] at h1
  obtain ⟨x, h2, ix⟩ := qof_ok K (d + 8) H1 iz
  rw [show d + 8 + 1 = d + 9 from rfl] at h2
  rw [<- xR_zero] at ix
  obtain ⟨x1, x2, x3, rfl, _⟩ := id ix
  obtain ⟨H2, h3, fr2, hS2⟩ := ldl_in K hK d hF hi (show j <= i by omega) (slow.loop8 (f6_l4 slow K (runQ wk tab slow K (d + 9)) k27) fuel) (av := av) (u := i64 A.length) (w := i64 i) (t := i64 (i + 1)) j 0 K H1 x1 x2 x3 (by omega) (by omega) (Frame.trans hfr fr1) (hS.fr fr1) ix
  obtain ⟨H3, h4, g4⟩ := ldl_mid K hK d ha hF hi k27 m (j + 1) fuel H2 (by omega) (by omega) fr2 hS2
  refine ⟨H3, ?_, g4⟩
  rw [z_loop8]
  simp only [f6_l4, n_lss, decide_eq_true hlt, z_cond, cond_true, l1, l2, h1, z_call, h2, z_bst3]
  exact h3.trans h4
theorem ldl_out (K : Nat) (hK : 200000 < K) (d : Nat) {H0 : Heap} {av lv dv : SV} {ws : List SV} {A : List (List Int)} (ha : IsInts2 H0 av A) (hF : Form A) : ∀ (m i fuel : Nat) (H : Heap), i + m = A.length -> m < fuel -> Frame H0 H -> LSt H0.size H lv dv ws (lP (ent A) i 0) (dP (ent A) i 0) A.length ->
  ∃ H', slow.loop5 (f6_l2 slow K (runQ wk tab slow K (d + 9))) fuel av lv dv (i64 A.length) (i64 i) H = some (.tuple [lv, dv, .int .i64 0], H') /\ Frame H0 H' /\ LSt H0.size H' lv dv ws (lP (ent A) A.length 0) (dP (ent A) A.length 0) A.length
 | 0, i, fuel, H, him, hf, hfr, hS => by
  obtain ⟨fuel, rfl⟩ : ∃ q, fuel = q + 1 := ⟨fuel - 1, by omega⟩
  have hlt : ¬ i < A.length := by omega
  have e : i = A.length := by omega
  refine ⟨H, ?_, hfr, by rw [<- e] at hS ⊢; exact hS⟩
  rw [z_loop5]
  simp only [f6_l2, n_lss, decide_eq_false hlt, z_cond, cond_false, z_rest hS.l.out.arr.good, z_rest hS.d.good]
 | m + 1, i, fuel, H, him, hf, hfr, hS => by
  obtain ⟨fuel, rfl⟩ : ∃ q, fuel = q + 1 := ⟨fuel - 1, by omega⟩
  have h8 := hF.sq.n8
  have hlt : i < A.length := by omega
  obtain ⟨H1, h1, fr1, hS1⟩ := ldl_mid K hK d ha hF hlt (slow.loop5 (f6_l2 slow K (runQ wk tab slow K (d + 9))) fuel) (i + 1) 0 K H (by omega) (by omega) hfr hS
  obtain ⟨H2, h2, g2⟩ := ldl_out K hK d ha hF m (i + 1) fuel H1 (by omega) (by omega) fr1 hS1
  refine ⟨H2, ?_, g2⟩
  rw [z_loop5]
  simp only [f6_l2, n_lss, decide_eq_true hlt, z_cond, cond_true, w_inc (show i < 1000000 by omega)]
  exact h1.trans h2
def lF (A : Mx) : Nat -> Nat -> Rat := fun x y => if x = y then 1 else if y < x then lR A x y else 0
theorem ldl_run (K d : Nat) (H : Heap) (v : SV) : runQ wk tab slow K (d + 10) 6 [v] H = f6 slow K (runQ wk tab slow K (d + 9)) v H := Eq.trans rfl rfl
theorem ldl_ok (K : Nat) (hK : 200000 < K) (d : Nat) (H : Heap) {av : SV} {A : List (List Int)} (ha : IsInts2 H av A) (hF : Form A) :
  ∃ lv dv ws H', runQ wk tab slow K (d + 10) 6 [av] H = some (.tuple [lv, dv, .int .i64 0], H') /\ Frame H H' /\ LSt H.size H' lv dv ws (lF (ent A)) (dR (ent A)) A.length := by
 have h8 := hF.sq.n8
 obtain ⟨H1, h1, fr1⟩ := chk_ok K hK d H ha
 rw [chk_form.2 hF] at h1
 obtain ⟨o, H2, h2, fr2, io⟩ := zof_ok K (by omega) (d + 6) H1 (z := 1) (by decide) (by decide)
 rw [show d + 6 + 3 = d + 9 from rfl] at h2
 obtain ⟨u, h3, iu⟩ := qof_ok K (d + 8) H2 io
 rw [show d + 8 + 1 = d + 9 from rfl] at h3
 have iu' := iu
 obtain ⟨b, s, t, rfl, ⟨s1, e1, ⟨s2, rfl, _⟩, _⟩, t1, e2, ⟨t2, rfl, _⟩, _⟩ := iu
 cases e1
 cases e2
 obtain ⟨H3, H4, h4, h5, fr4, p4⟩ := z_alloc3 H2 (decide (((1 : Int) : Rat).num < 0)) s2 t2
 have F4 := Frame.trans fr1 (Frame.trans fr2 fr4)
 have hE := unit_entry K (d + 7) p4 (iu'.fr fr4) A.length
 obtain ⟨lv, ws, H5, h6, fr5, W5⟩ := sqQ_ok K (by omega) (d + 8) (show A.length < 1000 by omega) hE
 rw [show d + 8 + 1 = d + 9 from rfl] at h6
 have F5 := Frame.trans F4 fr5
 obtain ⟨dv, H6, h7, o6, fr6, hin, _⟩ := z_makeS (H := H5) (lo := H5.size) (Nat.le_refl _) 3 56 (by decide) [.bool false, .slice nilSl, .slice nilSl] rfl A.length (by omega) (roomy_small (by omega)) .i64 .i64
 have F6 := Frame.trans F5 fr6
 have hlo : H.size <= H4.size := F4.size
 have hd6 := qrow_zero o6
 have W6 : GWork 3 IsQ H.size H6 lv ws (fun i j => if i = j then 1 else 0) A.length A.length := by
  have := W5.fr pcellQ fr6
  exact ⟨this.out.mono hlo, this.len, fun q w hw => (this.row q w hw).mono hlo, this.dis⟩
 have hS : LSt H.size H6 lv dv ws (lP (ent A) 0 0) (dP (ent A) 0 0) A.length := by
  refine ⟨W6.congr fun x y _ _ => ?_, (hd6.mono (Nat.le_trans hlo fr5.size)).congr fun x _ => ?_, fun q w r hw hr hr' => ?_⟩
  ·unfold lP
   by_cases e : x = y
   ·rw [if_pos e, if_pos e]
   ·rw [if_neg e, if_neg e, if_neg (by omega)]
  ·unfold dP
   rw [if_neg (by omega)]
  ·have a := ((W5.row q w hw).bd hr).2
   have b := (hd6.bd hr').1
   omega
 obtain ⟨H7, h8', fr7, hS7⟩ := ldl_out K hK d (H0 := H) (lv := lv) (dv := dv) (ws := ws) ha hF A.length 0 K H6 (by omega) (by omega) F6 hS
 refine ⟨lv, dv, ws, H7, ?_, fr7, hS7.congr (fun x y hx hy => ?_) fun x hx => ?_⟩
 ·rw [ldl_run]
  have b0 : ((0 : Int) != 0) = false := rfl
  simp only [f6, h1, z_call, z_neq, b0, z_cond, cond_false, ints_len ha, h2, h3, h4, h5, z_mkfn0 _ (show (SV.ptr (H2.size, 0)).good = true from rfl), h6, h7]
  exact h8'
 ·unfold lP lF
  by_cases e : x = y
  ·rw [if_pos e, if_pos e]
  ·rw [if_neg e, if_neg e]
   by_cases g : y < x
   ·rw [if_pos g, if_pos ⟨g, .inl hx⟩]
   ·rw [if_neg g, if_neg (by omega)]
 ·exact dP_got hx
theorem ldl_no (K : Nat) (hK : 200000 < K) (d : Nat) (H : Heap) {av : SV} {A : List (List Int)} (ha : IsInts2 H av A) (hF : chkE A ≠ 0) :
  ∃ H', runQ wk tab slow K (d + 10) 6 [av] H = some (.tuple [.slice nilSl, .slice nilSl, .int .i64 (chkE A)], H') /\ Frame H H' := by
 obtain ⟨H1, h1, fr1⟩ := chk_ok K hK d H ha
 have b : (chkE A != 0) = true := by simp [hF]
 refine ⟨H1, ?_, fr1⟩
 rw [ldl_run]
 simp only [f6, h1, z_call, z_neq, b, z_cond, cond_true, z_rest_int]
end Go.Sh.Of

/- GramLdl: the walk. -/
import Derived.Test.YtfjgbobjpjkamaaGreatLdlR
import Derived.Test.YtfjgbobjpjkamaaGreatRChk
import Derived.Test.YtfjgbobjpjkamaaGreatKeep
set_option linter.unusedVariables false
set_option linter.unusedSimpArgs false
namespace Go.Sh.Of
open Go Go.Sh
theorem GRow.place {α : Type} {N : Nat} {P : Heap -> SV -> α -> Prop} (hP : PCell N P) {lo : Nat} {H : Heap} {w : SV} {f : Nat -> α} {cols : Nat} (h : GRow N P lo H w f cols) {t : Nat} (ht : t < cols) :
  ∃ p, (∀ k, slow.idx N w (i64 t) k = k p) /\ ∀ H', Frame H H' -> (∃ e, (∀ k, slow.load N true p H' k = k (.agg e)) /\ P H' (.agg e) (f t)) /\ ∀ T, slow.same p H H' T = T := by
 have hfr : ∀ H', Frame H H' -> GRow N P lo H' w f cols := fun H' hf => h.fr hP hf
 obtain ⟨els, h1, h2, h3, h4⟩ := h
 obtain ⟨hn, base, rfl, h1⟩ := h1
 rcases h1 with ⟨_, rfl⟩ | ⟨r, ver, rfl, _, g⟩
 ·simp at h2; omega
 ·have hc : 0 <= (t : Int) /\ (t : Int) < els.length := ⟨by omega, by omega⟩
  have hidx : ∀ k, slow.idx N (.slice ⟨some (r, 0), els.length, none, 0⟩) (i64 t) k = k (.ptr (r, 0 + (t : Int).toNat * N)) := fun k => by
   show (opP (.idx N) [.slice ⟨some (r, 0), els.length, none, 0⟩, i64 t]).bind _ = _
   simp only [opP, if_pos hc, Option.bind_some]
  refine ⟨_, hidx, fun H' hf => ⟨?_, fun T => ?_⟩⟩
  ·obtain ⟨e, e1, e2⟩ := (hfr H' hf).load hP ht
   refine ⟨e, fun k => ?_, e2⟩
   have := e1 k
   rw [hidx] at this
   exact this
  ·have e : H'.ver r = H.ver r := by unfold Heap.ver; rw [hf.rows r (Heap.get_lt g)]
   show (bif sameRow (.ptr (r, 0 + (t : Int).toNat * N)) H H' then T else none) = T
   simp only [sameRow, rowOf, e, verEq_same, cond_true]
theorem qtexts_loop (K : Nat) (hK : 3000000 < K) (d : Nat) {H0 : Heap} {v w : SV} {lo lo' : Nat} {f : Nat -> Rat} {n : Nat} (hv : GRow 3 IsQ lo H0 v f n) (hw : GRow 3 IsQR lo' H0 w f n) (hq : ∀ t, t < n -> QS (f t)) (hn : n <= 8) : ∀ (m i fuel : Nat) (H : Heap), i + m = n -> m < fuel -> Frame H0 H ->
  ∃ H', slow.loop4 (f10_l2 slow K (runQ wk tab slow K (d + 7))) fuel v w (i64 n) (i64 i) H = some (.bool true, H') /\ Frame H0 H'
 | 0, i, fuel, H, him, hf, hfr => by
  obtain ⟨fuel, rfl⟩ : ∃ q, fuel = q + 1 := ⟨fuel - 1, by omega⟩
  have hlt : ¬ i < n := by omega
  refine ⟨H, ?_, hfr⟩
  rw [z_loop4]
  simp only [f10_l2, n_lss, decide_eq_false hlt, z_cond, cond_false]
 | m + 1, i, fuel, H, him, hf, hfr => by
  obtain ⟨fuel, rfl⟩ : ∃ q, fuel = q + 1 := ⟨fuel - 1, by omega⟩
  have hlt : i < n := by omega
  obtain ⟨e, a1, a2⟩ := (hv.fr pcellQ hfr).load pcellQ hlt
  obtain ⟨H1, h1, fr1⟩ := qtext_ok K (by omega) (d + 1) H a2 (hq i hlt)
  rw [show d + 1 + 6 = d + 7 from rfl] at h1
  obtain ⟨p, p1, p2⟩ := (hw.fr pcellR hfr).place pcellR hlt
  obtain ⟨⟨e', p3, p4⟩, p5⟩ := p2 H1 fr1
  obtain ⟨H2, h2, fr2⟩ := rqtext_ok K hK d H1 p4 (hq i hlt)
  obtain ⟨H3, h3, g3⟩ := qtexts_loop K hK d hv hw hq hn m (i + 1) fuel H2 (by omega) (by omega) (Frame.trans hfr (Frame.trans fr1 fr2))
  refine ⟨H3, ?_, g3⟩
  rw [z_loop4]
  simp only [f10_l2, n_lss, decide_eq_true hlt, z_cond, cond_true, a1, h1, z_call, p1, p3, h2, z_sneq, beq_self_eq_true, Bool.not_true, p5, cond_false, w_inc (show i < 1000000 by omega)]
  exact h3
theorem qtexts_run (K d : Nat) (H : Heap) (v w : SV) : runQ wk tab slow K (d + 8) 10 [v, w] H = f10 slow K (runQ wk tab slow K (d + 7)) v w H := Eq.trans rfl rfl
theorem qtexts_ok (K : Nat) (hK : 3000000 < K) (d : Nat) (H : Heap) {v w : SV} {lo lo' : Nat} {f : Nat -> Rat} {n : Nat} (hv : GRow 3 IsQ lo H v f n) (hw : GRow 3 IsQR lo' H w f n) (hq : ∀ t, t < n -> QS (f t)) (hn : n <= 8) :
  ∃ H', runQ wk tab slow K (d + 8) 10 [v, w] H = some (.bool true, H') /\ Frame H H' := by
 rw [qtexts_run]
 obtain ⟨H1, h1, fr1⟩ := qtexts_loop K hK d hv hw hq hn n 0 K H (by omega) (by omega) (Fr.refl _ _)
 refine ⟨H1, ?_, fr1⟩
 have hne : decide (n ≠ n) = false := decide_eq_false fun h => h rfl
 simp only [f10, hv.len, hw.len, n_neq, hne, z_cond, cond_false]
 exact h1
theorem lF_qs {A : List (List Int)} (hF : Form A) {x y : Nat} (hx : x < A.length) (hy : y < A.length) : QS (lF (ent A) x y) := by
 unfold lF
 by_cases e : x = y
 ·rw [if_pos e]
  exact QM.qs (QM.int (z := 1) (by decide))
 ·rw [if_neg e]
  by_cases g : y < x
  ·rw [if_pos g]
   exact (lR_qm hF hy hx).qs
  ·rw [if_neg g]
   exact QM.qs (QM.int (z := 0) (by decide))
structure Rest (lo2 lo3 : Nat) (H : Heap) (mv cv rv pv : SV) (ws2 ws3 : List SV) (A : Mx) (n : Nat) : Prop where
 m : GWork 3 IsQ lo2 H mv ws2 (lF A) n n
 c : GRow 3 IsQ lo2 H cv (dR A) n
 r : GWork 3 IsQR lo3 H rv ws3 (lF A) n n
 p : GRow 3 IsQR lo3 H pv (dR A) n
theorem GWork.bd {α : Type} {N : Nat} {P : Heap -> SV -> α -> Prop} {lo : Nat} {H : Heap} {v : SV} {ws : List SV} {m : Nat -> Nat -> α} {rows cols : Nat} (h : GWork N P lo H v ws m rows cols) {i : Nat} {w : SV} (hw : ws[i]? = some w) {r : Nat} (hr : inRow w r) : lo <= r /\ r < H.size := (h.row i w hw).bd hr
theorem Rest.fr {lo2 lo3 : Nat} {H H' : Heap} {mv cv rv pv : SV} {ws2 ws3 : List SV} {A : Mx} {n : Nat} (h : Rest lo2 lo3 H mv cv rv pv ws2 ws3 A n) (hf : Frame H H') : Rest lo2 lo3 H' mv cv rv pv ws2 ws3 A n := ⟨h.m.fr pcellQ hf, h.c.fr pcellQ hf, h.r.fr pcellR hf, h.p.fr pcellR hf⟩
theorem Rest.keep {lo2 lo3 : Nat} {H H' : Heap} {mv cv rv pv : SV} {ws2 ws3 : List SV} {A : Mx} {n : Nat} (h : Rest lo2 lo3 H mv cv rv pv ws2 ws3 A n) (h23 : lo2 <= lo3) {X : Nat -> Prop} (hX : ∀ r row, X r -> H.get r = some row -> ∀ c ∈ row.cells, ∀ kd n, c ≠ .int kd n) (hro : ∀ r, ¬ X r -> r < H.size -> H'.get r = H.get r) (hlo : ∀ r, X r -> r < lo2) : Rest lo2 lo3 H' mv cv rv pv ws2 ws3 A n := by
 refine ⟨h.m.keepX pcellQ hX hro (fun r hr hx => ?_) fun i w r hw hr hx => ?_, h.c.keep pcellQ hX hro fun r hr hx => ?_, h.r.keepX pcellR hX hro (fun r hr hx => ?_) fun i w r hw hr hx => ?_, h.p.keep pcellR hX hro fun r hr hx => ?_⟩
 ·have a := (Own.bd h.m.out hr).1
  have b := hlo r hx
  omega
 ·have a := (h.m.bd hw hr).1
  have b := hlo r hx
  omega
 ·have a := (h.c.bd hr).1
  have b := hlo r hx
  omega
 ·have a := (Own.bd h.r.out hr).1
  have b := hlo r hx
  omega
 ·have a := (h.r.bd hw hr).1
  have b := hlo r hx
  omega
 ·have a := (h.p.bd hr).1
  have b := hlo r hx
  omega
theorem spoil_in (C : CallC) (K : Nat) {lo1 lo2 lo3 : Nat} (h23 : lo2 <= lo3) {lv dv mv cv rv pv : SV} {ws ws2 ws3 : List SV} {A : Mx} {n : Nat} (hn : n <= 8) (hb1 : ∀ (q : Nat) w r, ws[q]? = some w -> inRow w r -> r < lo2) (hb2 : ∀ r, inRow dv r -> r < lo2) {i : Nat} (hi : i < n) (k45 : SV -> SV -> SV -> SV -> SV -> SV -> SV -> SV -> Heap -> Rs) : ∀ (m j fuel : Nat) (H : Heap) (L : Nat -> Nat -> Rat) (D : Nat -> Rat), j + m = n -> m < fuel -> LSt lo1 H lv dv ws L D n -> (∀ x y, i < x -> L x y = lF A x y) -> Rest lo2 lo3 H mv cv rv pv ws2 ws3 A n ->
  ∃ H' L' D', slow.loop11 (f3_l10 slow K C k45) fuel lv dv mv cv rv pv (i64 i) (i64 n) (i64 i) (i64 n) (i64 j) H = k45 lv dv mv cv rv pv (i64 n) (i64 (i + 1)) H' /\ LSt lo1 H' lv dv ws L' D' n /\ (∀ x y, i < x -> L' x y = lF A x y) /\ Rest lo2 lo3 H' mv cv rv pv ws2 ws3 A n
 | 0, j, fuel, H, L, D, hjm, hf, hS, hL, hR => by
  obtain ⟨fuel, rfl⟩ : ∃ q, fuel = q + 1 := ⟨fuel - 1, by omega⟩
  have hlt : ¬ j < n := by omega
  obtain ⟨H1, st, D1, fr1, _, hro, _⟩ := hS.d.store pcellQ hi (IsQ.zero H)
  obtain ⟨els, hown⟩ := hS.d.own
  refine ⟨H1, L, _, ?_, ⟨hS.l.keepX pcellQ (X := fun r => inRow dv r) hS.d.flat (fun r hr _ => hro r hr) (fun r hr => ownS_apartG (by decide) hS.l.out hown hr) hS.ap, D1, hS.ap⟩, hL, hR.keep h23 (X := fun r => inRow dv r) hS.d.flat (fun r hr _ => hro r hr) hb2⟩
  rw [z_loop11]
  simp only [f3_l10, n_lss, decide_eq_false hlt, z_cond, cond_false, z_build30, st, w_inc (show i < 1000000 by omega)]
 | m + 1, j, fuel, H, L, D, hjm, hf, hS, hL, hR => by
  obtain ⟨fuel, rfl⟩ : ∃ q, fuel = q + 1 := ⟨fuel - 1, by omega⟩
  have hlt : j < n := by omega
  obtain ⟨wi, hwi⟩ : ∃ w, ws[i]? = some w := ⟨_, List.getElem?_eq_getElem (by rw [hS.l.len]; exact hi)⟩
  obtain ⟨H1, st, L1, fr1, _, hro, _⟩ := hS.l.store pcellQ hwi hlt (IsQ.zero H)
  have hrow := hS.l.row i wi hwi
  have hld := hS.l.out.arr.load hwi .i64
  have hS1 : LSt lo1 H1 lv dv ws _ D n := ⟨L1, hS.d.keep pcellQ (X := fun r => inRow wi r) hrow.flat (fun r hr _ => hro r hr) (fun r hr hr' => hS.ap i wi r hwi hr' hr), hS.ap⟩
  obtain ⟨H2, L', D', h2, g2⟩ := spoil_in C K h23 hn hb1 hb2 hi k45 m (j + 1) fuel H1 _ D (by omega) (by omega) hS1 (fun x y hx => by
   unfold updG
   rw [if_neg (by omega)]
   exact hL x y hx) (hR.keep h23 (X := fun r => inRow wi r) hrow.flat (fun r hr _ => hro r hr) fun r hr => hb1 i wi r hwi hr)
  refine ⟨H2, L', D', ?_, g2⟩
  rw [z_loop11]
  simp only [f3_l10, n_lss, decide_eq_true hlt, z_cond, cond_true, hld, z_build30, st, w_inc (show j < 1000000 by omega)]
  exact h2
theorem again_loop (K : Nat) (hK : 3000000 < K) (d : Nat) {lo2 lo3 : Nat} {mv cv rv pv : SV} {ws2 ws3 : List SV} {A : List (List Int)} (hF : Form A) : ∀ (m i fuel : Nat) (H : Heap), i + m = A.length -> m < fuel -> Rest lo2 lo3 H mv cv rv pv ws2 ws3 (ent A) A.length ->
  ∃ H', slow.loop6 (f3_l16 slow K (runQ wk tab slow K (d + 21))) fuel mv cv rv pv (i64 A.length) (i64 i) H = some (.bool true, H')
 | 0, i, fuel, H, him, hf, hR => by
  obtain ⟨fuel, rfl⟩ : ∃ q, fuel = q + 1 := ⟨fuel - 1, by omega⟩
  have h8 := hF.sq.n8
  have hlt : ¬ i < A.length := by omega
  obtain ⟨H1, h1, _⟩ := qtexts_ok K hK (d + 13) H hR.c hR.p (fun t ht => (dR_qm hF ht).qs) h8
  rw [show d + 13 + 8 = d + 21 from rfl] at h1
  refine ⟨H1, ?_⟩
  rw [z_loop6]
  simp only [f3_l16, n_lss, decide_eq_false hlt, z_cond, cond_false, hR.m.size, hR.r.size, n_eql, decide_true, z_guard, cond_true, h1, z_call, f3_j21, z_rest_bool]
 | m + 1, i, fuel, H, him, hf, hR => by
  obtain ⟨fuel, rfl⟩ : ∃ q, fuel = q + 1 := ⟨fuel - 1, by omega⟩
  have h8 := hF.sq.n8
  have hlt : i < A.length := by omega
  obtain ⟨wm, hwm⟩ : ∃ w, ws2[i]? = some w := ⟨_, List.getElem?_eq_getElem (by rw [hR.m.len]; exact hlt)⟩
  obtain ⟨wr, hwr⟩ : ∃ w, ws3[i]? = some w := ⟨_, List.getElem?_eq_getElem (by rw [hR.r.len]; exact hlt)⟩
  have l1 := hR.m.out.arr.load hwm .i64
  have l2 := hR.r.out.arr.load hwr .i64
  obtain ⟨H1, h1, fr1⟩ := qtexts_ok K hK (d + 13) H (hR.m.row i wm hwm) (hR.r.row i wr hwr) (fun t ht => lF_qs hF hlt ht) h8
  rw [show d + 13 + 8 = d + 21 from rfl] at h1
  obtain ⟨H2, h2⟩ := again_loop K hK d hF m (i + 1) fuel H1 (by omega) (by omega) (hR.fr fr1)
  refine ⟨H2, ?_⟩
  rw [z_loop6]
  simp only [f3_l16, n_lss, decide_eq_true hlt, z_cond, cond_true, l1, l2, h1, z_call, z_not, Bool.not_true, cond_false, w_inc (show i < 1000000 by omega)]
  exact h2
theorem spoil_out (K : Nat) (hK : 3000000 < K) (d : Nat) {lo1 lo2 lo3 : Nat} (h23 : lo2 <= lo3) {lv dv mv cv rv pv : SV} {ws ws2 ws3 : List SV} {A : List (List Int)} (hF : Form A) (hb1 : ∀ (q : Nat) w r, ws[q]? = some w -> inRow w r -> r < lo2) (hb2 : ∀ r, inRow dv r -> r < lo2) : ∀ (m i fuel : Nat) (H : Heap) (L : Nat -> Nat -> Rat) (D : Nat -> Rat), i + m = A.length -> m < fuel -> LSt lo1 H lv dv ws L D A.length -> (∀ x y, i <= x -> L x y = lF (ent A) x y) -> Rest lo2 lo3 H mv cv rv pv ws2 ws3 (ent A) A.length ->
  ∃ H', slow.loop8 (f3_l7 slow K (runQ wk tab slow K (d + 21))) fuel lv dv mv cv rv pv (i64 A.length) (i64 i) H = some (.bool true, H')
 | 0, i, fuel, H, L, D, him, hf, hS, hL, hR => by
  obtain ⟨fuel, rfl⟩ : ∃ q, fuel = q + 1 := ⟨fuel - 1, by omega⟩
  have h8 := hF.sq.n8
  have hlt : ¬ i < A.length := by omega
  obtain ⟨H1, h1⟩ := again_loop K hK d hF A.length 0 K H (by omega) (by omega) hR
  refine ⟨H1, ?_⟩
  rw [z_loop8]
  simp only [f3_l7, n_lss, decide_eq_false hlt, z_cond, cond_false, hR.m.size]
  exact h1
 | m + 1, i, fuel, H, L, D, him, hf, hS, hL, hR => by
  obtain ⟨fuel, rfl⟩ : ∃ q, fuel = q + 1 := ⟨fuel - 1, by omega⟩
  have h8 := hF.sq.n8
  have hlt : i < A.length := by omega
  obtain ⟨wl, hwl⟩ : ∃ w, ws[i]? = some w := ⟨_, List.getElem?_eq_getElem (by rw [hS.l.len]; exact hlt)⟩
  obtain ⟨wr, hwr⟩ : ∃ w, ws3[i]? = some w := ⟨_, List.getElem?_eq_getElem (by rw [hR.r.len]; exact hlt)⟩
  have l1 := hS.l.out.arr.load hwl .i64
  have l2 := hR.r.out.arr.load hwr .i64
  obtain ⟨H1, h1, fr1⟩ := qtexts_ok K hK (d + 13) H ((hS.l.row i wl hwl).congr fun t _ => hL i t (Nat.le_refl _)) (hR.r.row i wr hwr) (fun t ht => lF_qs hF hlt ht) h8
  rw [show d + 13 + 8 = d + 21 from rfl] at h1
  have hS1 := hS.fr fr1
  have l3 := hS1.l.out.arr.load hwl .i64
  have l4 := (hS1.l.row i wl hwl).len
  obtain ⟨H2, L', D', h2, S2, L2, R2⟩ := spoil_in (runQ wk tab slow K (d + 21)) K h23 h8 hb1 hb2 hlt (slow.loop8 (f3_l7 slow K (runQ wk tab slow K (d + 21))) fuel) A.length 0 K H1 L D (by omega) (by omega) hS1 (fun x y hx => hL x y (by omega)) (hR.fr fr1)
  obtain ⟨H3, h3⟩ := spoil_out K hK d h23 hF hb1 hb2 m (i + 1) fuel H2 L' D' (by omega) (by omega) S2 L2 R2
  refine ⟨H3, ?_⟩
  rw [z_loop8]
  simp only [f3_l7, n_lss, decide_eq_true hlt, z_cond, cond_true, l1, l2, h1, z_call, z_not, Bool.not_true, cond_false, l3, l4]
  exact h2.trans h3
theorem ldls_run (K d : Nat) (H : Heap) (v : SV) : runQ wk tab slow K (d + 22) 3 [v] H = f3 slow K (runQ wk tab slow K (d + 21)) v H := Eq.trans rfl rfl
theorem ldls_ok (K : Nat) (hK : 3000000 < K) (d : Nat) (H : Heap) {v : SV} {A : List (List Int)} (hv : IsInts2 H v A) (_ : ∀ r ∈ A, ∀ z ∈ r, I64 z) :
  ∃ H', runQ wk tab slow K (d + 22) 3 [v] H = some (.bool true, H') := by
 have hw : ∀ H, runQ wk tab slow K (d + 21) 4 [] H = some (.bool true, H) := fun H => rfl
 rw [ldls_run]
 obtain ⟨u, H1, h1, ho, fr1, _, _⟩ := z_lay1 (H := H) (lo := H.size) (Nat.le_refl _) (.slice nilSl) (IsRowsC.flat hv)
 have hv1 : IsInts2 H1 v A := IsRowsC.fr hv fr1
 simp only [f3, hw, z_call, z_not, Bool.not_true, z_guard, cond_false, h1]
 rcases beyond7_ok K (by omega) (d + 20) H1 (Ts := [A]) ho.arr (by simp) rfl (fun i u T' hu hT => by
  match i with
  | 0 => simp at hu hT; subst hu hT; exact hv1
  | n + 1 => simp at hu) with h2 | ⟨hfew, h2⟩
 ·refine ⟨H1, ?_⟩
  simp only [h2, z_call, f3_j1, z_cond, cond_true, hw, z_rest_bool]
 ·have hfA : FewI A := hfew A (by simp)
  obtain ⟨b, H2, h3, fr2, t2⟩ := twin_ok K (by omega) (d + 20) H1 hv1 hfA
  have g2 := Frame.trans fr1 fr2
  by_cases hE : chkE A = 0
  ·have hF := chk_form.1 hE
   have h8 := hF.sq.n8
   obtain ⟨lv, dv, ws, H3, h4, fr3, S3⟩ := ldl_ok K (by omega) (d + 11) H2 t2.ints hF
   rw [show d + 11 + 10 = d + 21 from rfl] at h4
   have t3 := t2.fr fr3
   obtain ⟨mv, cv, ws2, H4, h5, fr4, S4⟩ := ldl_ok K (by omega) (d + 11) H3 t3.ints hF
   rw [show d + 11 + 10 = d + 21 from rfl] at h5
   have t4 := t3.fr fr4
   have g4 := Frame.trans g2 (Frame.trans fr3 fr4)
   obtain ⟨H5, h6, fr5⟩ := rchk_ok K hK (d + 12) H4 (IsRowsC.fr hv g4)
   rw [show d + 12 + 9 = d + 21 from rfl, hE] at h6
   have g5 := Frame.trans g4 fr5
   have t5 := t4.fr fr5
   obtain ⟨rv, pv, ws3, H6, h7, fr6, R6, P6⟩ := rldl_ok K hK (d + 11) H5 (IsRowsC.fr hv g5) hF
   rw [show d + 11 + 10 = d + 21 from rfl] at h7
   have g6 := Frame.trans g5 fr6
   have t6 := t5.fr fr6
   have S6 := ((S3.fr fr4).fr fr5).fr fr6
   have M6 := (S4.fr fr5).fr fr6
   obtain ⟨H7, h8', fr7⟩ := qtexts_ok K hK (d + 13) H6 S6.d P6 (fun t ht => (dR_qm hF ht).qs) h8
   rw [show d + 13 + 8 = d + 21 from rfl] at h8'
   have g7 := Frame.trans g6 fr7
   have hk := kept_ok K (by omega) (d + 19) H7 (IsRowsC.fr hv g7) (t6.fr fr7) hfA
   rw [show d + 19 + 2 = d + 21 from rfl] at hk
   have S7 := S6.fr fr7
   have R7 : Rest H3.size H5.size H7 mv cv rv pv ws2 ws3 (ent A) A.length := ⟨(M6.fr fr7).l, (M6.fr fr7).d, R6.fr pcellR fr7, P6.fr pcellR fr7⟩
   obtain ⟨H8, h9⟩ := spoil_out K hK d (Nat.le_trans fr4.size fr5.size) hF (fun q w r hw hr => (S3.l.bd hw hr).2) (fun r hr => (S3.d.bd hr).2) A.length 0 K H7 _ _ (by omega) (by omega) S7 (fun x y _ => rfl) R7
   refine ⟨H8, ?_⟩
   have b0 : ((0 : Int) != 0) = false := rfl
   have hne : decide (A.length ≠ A.length) = false := decide_eq_false fun h => h rfl
   simp only [h2, z_call, f3_j1, z_cond, cond_false, h3, h4, z_ext0, z_ext1, z_ext2, h5, h6, z_neq, b0, h7, z_guard, S6.l.size, R6.size, bne_self_eq_false, h8', z_not, Bool.not_true, hk, f3_j5, S7.l.size]
   exact h9
  ·obtain ⟨H3, h4, fr3⟩ := ldl_no K (by omega) (d + 11) H2 t2.ints hE
   rw [show d + 11 + 10 = d + 21 from rfl] at h4
   have t3 := t2.fr fr3
   obtain ⟨H4, h5, fr4⟩ := ldl_no K (by omega) (d + 11) H3 t3.ints hE
   rw [show d + 11 + 10 = d + 21 from rfl] at h5
   have g4 := Frame.trans g2 (Frame.trans fr3 fr4)
   obtain ⟨H5, h6, fr5⟩ := rchk_ok K hK (d + 12) H4 (IsRowsC.fr hv g4)
   rw [show d + 12 + 9 = d + 21 from rfl] at h6
   have b : (chkE A != 0) = true := by simp [hE]
   have hl : ∀ k, slow.len (.slice nilSl) k = k (i64 0) := fun k => (Arr.nil H).len k
   have b0 : ∀ k, slow.eql (i64 0) (.int .i64 0) k = k (.bool true) := fun k => by rw [z_eql]; rfl
   refine ⟨H5, ?_⟩
   simp only [h2, z_call, f3_j1, z_cond, cond_false, h3, h4, z_ext0, z_ext1, z_ext2, h5, h6, z_neq, b, cond_true, z_eql, beq_self_eq_true, z_guard, hl, b0, f3_j3, z_rest_bool]
end Go.Sh.Of

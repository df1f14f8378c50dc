/- Contracts of the reference's layer 5: rows that are built; Add, Mul, Neg, Columns, Read. -/
import Derived.Test.YtdibokcaoefeaaaRefP
import Derived.Test.YtdibokcaoefeaaaMatP
set_option linter.unusedVariables false
set_option linter.unusedSimpArgs false
namespace Go.Sh.Of
open Go

/-! ### Rows that are built -/
/-- A row of the reference's numbers, of one's own. -/
def RRow (lo : Nat) (H : Heap) (t : SV) (zs : List Int) : Prop := ∃ els, OwnS 2 lo H t els ∧ els.length = zs.length ∧ (∀ e ∈ els, zCell e) ∧ ∀ (q : Nat) e z, els[q]? = some e → zs[q]? = some z → IsRZ H (.agg e) z
/-- Rows of them. -/
def ROut (lo : Nat) (H : Heap) (out : SV) (rows : List (List Int)) : Prop := ∃ ws, Own lo H out ws ∧ ws.length = rows.length ∧ (∀ w ∈ ws, isSlice w) ∧ ∀ (q : Nat) w zs, ws[q]? = some w → rows[q]? = some zs → IsRZs H w zs ∧ ∀ r, inRow w r → lo ≤ r
theorem RRow.nil (lo : Nat) (H : Heap) : RRow lo H (.slice nilSl) [] := ⟨[], OwnS.nil _ _ _, rfl, (fun e he => by cases he), fun q e z he => by simp at he⟩
theorem ROut.nil (lo : Nat) (H : Heap) : ROut lo H (.slice nilSl) [] := ⟨[], Own.nil _ _, rfl, (fun e he => by cases he), fun q e z he => by simp at he⟩
theorem RRow.fr {lo : Nat} {H H' : Heap} {t : SV} {zs : List Int} (h : RRow lo H t zs) (hf : Frame H H') : RRow lo H' t zs := by
  obtain ⟨els, h1, h2, h3, h4⟩ := h
  exact ⟨els, OwnS.fr h1 hf, h2, h3, fun q e z he hz => (h4 q e z he hz).fr hf⟩
theorem RRow.flat {lo : Nat} {H : Heap} {t : SV} {zs : List Int} (h : RRow lo H t zs) : t.flat = true := by
  obtain ⟨els, h1, _⟩ := h
  exact h1.arr.flat
theorem RRow.cells {lo : Nat} {H : Heap} {t : SV} {zs : List Int} (h : RRow lo H t zs) : ∀ r row, inRow t r → H.get r = some row → ∀ c ∈ row.cells, ∀ n, c ≠ .int .u32 n := fun r row hr hg c hc n => by
  obtain ⟨els, h1, _, h3, _⟩ := h
  rw [OwnS.cells h1 hr hg] at hc
  exact zCells_flat h3 c hc _ _
theorem RRow.ge {lo : Nat} {H : Heap} {t : SV} {zs : List Int} (h : RRow lo H t zs) {r : Nat} (hr : inRow t r) : lo ≤ r := by
  obtain ⟨els, h1, _⟩ := h
  exact OwnS.geA h1 hr
theorem RRow.zs {lo : Nat} {H : Heap} {t : SV} {zs : List Int} (h : RRow lo H t zs) : IsRZs H t zs := by
  obtain ⟨els, h1, h2, h3, h4⟩ := h
  exact ⟨els, h1.arr, h2, h4⟩
theorem RRow.push {lo : Nat} {H : Heap} {t : SV} {zs : List Int} (h : RRow lo H t zs) (hl : lo ≤ H.size) {b : SV} {s : SV} {z : Int} (hz : IsRZ H (.agg [b, s]) z) (hlen : zs.length < 100000) :
    ∃ t' H', (∀ k, slow.hbuild 2 [.bool false, .slice nilSl] [(0, 2)] [.agg [b, s]] H (fun u H1 => slow.append 2 32 t u H1 k) = k t' H') ∧ RRow lo H' t' (zs ++ [z]) ∧ Fr lo H H' := by
  have hX := h.cells
  obtain ⟨els, h1, h2, h3, h4⟩ := h
  obtain ⟨t', H2, hp, ht2, hf2, hro⟩ := pushS (by decide) (by decide) h1 hl [.bool false, .slice nilSl] rfl (e := [b, s]) rfl (by_ := 32) (roomy_small (by omega))
  refine ⟨t', H2, hp, ⟨els ++ [[b, s]], ht2, by simp [h2], fun e he => ?_, fun q e z' he hz' => ?_⟩, hf2⟩
  · rcases List.mem_append.1 he with he | he
    · exact h3 e he
    · rw [List.mem_singleton.1 he]; exact hz.cell
  · by_cases hq : q < els.length
    · rw [List.getElem?_append_left hq] at he
      rw [List.getElem?_append_left (by omega)] at hz'
      exact (h4 q e z' he hz').keep (X := fun r => inRow t r) hX hro
    · have hq2 : q = els.length := by have := (List.getElem?_eq_some_iff.1 he).1; simp at this; omega
      subst hq2
      simp at he
      subst he
      rw [h2] at hz'
      simp at hz'
      subst hz'
      exact hz.keep (X := fun r => inRow t r) hX hro
theorem ROut.push {lo : Nat} {Hi H : Heap} {out t : SV} {rows : List (List Int)} {zs : List Int} (h : ROut lo Hi out rows) (hlo : lo ≤ Hi.size) (hfr : Frame Hi H) (ht : RRow Hi.size H t zs) (hlen : rows.length < 100000) :
    ∃ out' H', (∀ k, slow.hbuild 1 [.slice nilSl] [(0, 1)] [t] H (fun u H1 => slow.append 1 24 out u H1 k) = k out' H') ∧ ROut lo H' out' (rows ++ [zs]) ∧ Fr lo Hi H' := by
  obtain ⟨ws, ho, hwl, hws, hdone⟩ := h
  obtain ⟨out', H2, hp, ho2, hf2, hrw⟩ := push1 (ho.fr hfr) (Nat.le_trans hlo hfr.size) (.slice nilSl) (x := t) ht.flat (by_ := 24) (roomy_small (by omega))
  have hX : ∀ r row, inRow out r → H.get r = some row → ∀ c ∈ row.cells, isSlice c := fun r row hr hg c hc => by
    rw [Own.cells (ho.fr hfr) hr hg] at hc
    exact hws c hc
  have htz : IsRZs H2 t zs := ht.zs.keep (X := fun r => inRow out r) (fun r hr hx => by
    have := ht.ge hr
    have := Own.lt ho hx
    omega) (fun r row hx hg c hc n => isSlice_not_int (hX r row hx hg c hc) _ n) hrw
  refine ⟨out', H2, hp, ⟨ws ++ [t], ho2, by simp [hwl], fun w hw => ?_, fun q w zs' hw hz' => ?_⟩, (hfr.mono hlo).trans hf2⟩
  · rcases List.mem_append.1 hw with hw | hw
    · exact hws w hw
    · rw [List.mem_singleton.1 hw]; exact htz.slice
  · by_cases hq : q < ws.length
    · rw [List.getElem?_append_left hq] at hw
      rw [List.getElem?_append_left (by omega)] at hz'
      exact ⟨((hdone q w zs' hw hz').1.fr hfr).keepS (X := fun r => inRow out r) hX hrw, (hdone q w zs' hw hz').2⟩
    · have hq2 : q = ws.length := by have := (List.getElem?_eq_some_iff.1 hw).1; simp at this; omega
      subst hq2
      simp at hw
      subst hw
      rw [hwl] at hz'
      simp at hz'
      subst hz'
      exact ⟨htz, fun r hr => Nat.le_trans hlo (ht.ge hr)⟩
theorem ROut.fr {lo : Nat} {H H' : Heap} {out : SV} {rows : List (List Int)} (h : ROut lo H out rows) (hf : Frame H H') : ROut lo H' out rows := by
  obtain ⟨ws, ho, hwl, hws, hdone⟩ := h
  exact ⟨ws, ho.fr hf, hwl, hws, fun q w zs hw hz => ⟨(hdone q w zs hw hz).1.fr hf, (hdone q w zs hw hz).2⟩⟩
theorem ROut.rrows {lo : Nat} {H : Heap} {out : SV} {rows : List (List Int)} (h : ROut lo H out rows) : IsRRows lo H out rows := by
  obtain ⟨ws, ho, hwl, hws, hdone⟩ := h
  exact ⟨ws, ho.arr, hwl, fun r hr => Own.ge ho hr, hdone⟩
theorem ROut.good {lo : Nat} {H : Heap} {out : SV} {rows : List (List Int)} (h : ROut lo H out rows) : out.good = true := by
  obtain ⟨ws, ho, _⟩ := h
  exact ho.arr.good
theorem IsRZ.agg {H : Heap} {v : SV} {z : Int} (h : IsRZ H v z) : ∃ b s, v = .agg [b, s] := by
  obtain ⟨s, e, _⟩ := h
  exact ⟨_, _, e⟩
theorem IsRRows.entry {lo : Nat} {H : Heap} {v : SV} {A : List (List Int)} (h : IsRRows lo H v A) (hg : Good A) {i j : Nat} (hi : i < A.length) (hj : j < colsOf A) : ∃ u x, (∀ k, slow.idx 1 v (i64 i) (fun p => slow.load 1 false p H k) = k u) ∧ (∀ k, slow.len u k = k (i64 (colsOf A))) ∧ (∀ k, slow.idx 2 u (i64 j) (fun p => slow.load 2 true p H k) = k x) ∧ IsRZ H x (ent A i j) ∧ (ent A i j).natAbs < 2 ^ 4096 := by
  obtain ⟨r, h1, h2, h3⟩ := hg.at hi hj
  obtain ⟨u, hu, hz⟩ := h.load h1
  obtain ⟨x, hx, hrz⟩ := hz.load h2
  have hl := hg.rect r (List.mem_of_getElem? h1)
  exact ⟨u, x, fun k => hu .i64 k, fun k => by rw [hz.len, hl], fun k => hx .i64 k, hrz, h3⟩
theorem IsRRows.rowlen {lo : Nat} {H : Heap} {v : SV} {A : List (List Int)} (h : IsRRows lo H v A) (hg : Good A) {i : Nat} (hi : i < A.length) : ∃ u, (∀ k, slow.idx 1 v (i64 i) (fun p => slow.load 1 false p H k) = k u) ∧ (∀ k, slow.len u k = k (i64 (colsOf A))) := by
  obtain ⟨r, hr⟩ : ∃ r, A[i]? = some r := ⟨_, List.getElem?_eq_getElem hi⟩
  obtain ⟨u, hu, hz⟩ := h.load hr
  have hl := hg.rect r (List.mem_of_getElem? hr)
  exact ⟨u, fun k => hu .i64 k, fun k => by rw [hz.len, hl]⟩
theorem rbig {z : Int} (h : z.natAbs < 2 ^ 4096) : (rdigs z.natAbs).length ≤ 256 := big_rd h
theorem z_build2g (b : SV) (s : Sl) (hb : b.flat = true) (k : K1) : slow.build [.bool false, .slice nilSl] [(0, 1), (1, 1)] [b, .slice s] k = k (.agg [b, .slice s]) := by
  cases b <;> first | rfl | cases hb
/-! ### Columns -/
theorem rcols_ok (K : Nat) (d : Nat) (H : Heap) {lo : Nat} {v : SV} {A : List (List Int)} (hv : IsRRows lo H v A) : runQ wk tab slow K (d + 1) 20 [v] H = some (i64 (colsOf A), H) := by
  show f20 slow K (runQ wk tab slow K d) v H = _
  simp only [f20, hv.len, z_eql, z_cond]
  by_cases h0 : A = []
  · subst h0
    rfl
  · have hz : ((A.length : Int) == 0) = false := beq_eq_false_iff_ne.2 (by have := List.length_pos_iff.2 h0; omega)
    obtain ⟨r0, hr0⟩ : ∃ r, A[0]? = some r := ⟨_, List.getElem?_eq_getElem (List.length_pos_iff.2 h0)⟩
    obtain ⟨u, hu, hz0⟩ := hv.load (i := 0) hr0
    have hu' : ∀ k, slow.idx 1 v (.int .i64 0) (fun p => slow.load 1 false p H k) = k u := fun k => hu .i64 k
    have e : colsOf A = r0.length := by simp [colsOf, hr0]
    simp only [hz, cond_false, hu', hz0.len, z_rest_int, e]
/-! ### Numbers -/
theorem rlen_pos {n : Nat} : (decide ((((rdigs n).length : Nat) : Int) > 0)) = decide (n ≠ 0) := by
  rw [decide_eq_decide]
  by_cases h : n = 0
  · subst h; rw [rdigs_zero]; simp
  · have : rdigs n ≠ [] := fun e => h (rdigs_nil.1 e)
    have := List.length_pos_iff.2 this
    constructor
    · intro _; exact h
    · intro _; omega
theorem IsR.slice {H : Heap} {v : SV} {n : Nat} (h : IsR H v n) : ∃ s, v = .slice s := by
  obtain ⟨s, e, _⟩ := h
  exact ⟨s, e⟩
theorem rzneg_ok (K : Nat) (d : Nat) (H : Heap) {v : SV} {z : Int} (hv : IsRZ H v z) : ∃ r, runQ wk tab slow K (d + 1) 45 [v] H = some (r, H) ∧ IsRZ H r (-z) := by
  obtain ⟨s, rfl, hs⟩ := hv
  have hl : ∀ k, slow.len (.slice s) k = k (i64 (rdigs z.natAbs).length) := rlen hs
  show ∃ r, f45 slow K (runQ wk tab slow K d) (.agg [.bool (decide (z < 0)), .slice s]) H = _ ∧ _
  refine ⟨.agg [.bool (decide (-z < 0)), .slice s], ?_, s, rfl, by rw [Int.natAbs_neg]; exact hs⟩
  by_cases h : z < 0
  · have e : decide (-z < 0) = false := decide_eq_false (by omega)
    simp only [f45, z_bbox, z_lfld, z_lld0, z_lld1, decide_eq_true h, z_not, Bool.not_true, z_guard, cond_false, z_build2s, z_bst2, f45_j1, z_resc2, e]
  · have e : decide (-z < 0) = decide (z.natAbs ≠ 0) := decide_eq_decide.2 (by omega)
    simp only [f45, z_bbox, z_lfld, z_lld0, z_lld1, decide_eq_false h, z_not, Bool.not_false, z_guard, cond_true, hl, z_gtr, rlen_pos, z_build2s, z_bst2, f45_j1, z_resc2, e]
theorem rzadd_ok (K : Nat) (hK : 3000000 < K) (d : Nat) (H : Heap) {v w : SV} {a b : Int} (hv : IsRZ H v a) (hw : IsRZ H w b) (hla : (rdigs a.natAbs).length < 100000) (hlb : (rdigs b.natAbs).length < 100000) :
    ∃ r H', runQ wk tab slow K (d + 3) 43 [v, w] H = some (r, H') ∧ Frame H H' ∧ IsRZ H' r (a + b) := by
  obtain ⟨s, rfl, hs⟩ := hv
  obtain ⟨t, rfl, ht⟩ := hw
  show ∃ r H', f43 slow K (runQ wk tab slow K (d + 2)) _ _ H = _ ∧ _
  by_cases hsg : decide (a < 0) = decide (b < 0)
  · have hbeq : (decide (a < 0) == decide (b < 0)) = true := by rw [hsg]; exact beq_self_eq_true _
    obtain ⟨r, H1, h1, f1, hr⟩ := radd_ok K d H hs ht (by omega) (by omega) hK
    obtain ⟨q, rfl⟩ := hr.slice
    have e1 : decide (a < 0) = decide (a + b < 0) := by
      by_cases h : a < 0
      · have : b < 0 := by rw [decide_eq_true h] at hsg; exact of_decide_eq_true hsg.symm
        rw [decide_eq_true h, decide_eq_true (by omega)]
      · have : ¬ b < 0 := by rw [decide_eq_false h] at hsg; exact of_decide_eq_false hsg.symm
        rw [decide_eq_false h, decide_eq_false (by omega)]
    have e2 : a.natAbs + b.natAbs = (a + b).natAbs := by
      by_cases h : a < 0
      · have : b < 0 := by rw [decide_eq_true h] at hsg; exact of_decide_eq_true hsg.symm
        omega
      · have : ¬ b < 0 := by rw [decide_eq_false h] at hsg; exact of_decide_eq_false hsg.symm
        omega
    rw [e2] at hr
    refine ⟨.agg [.bool (decide (a + b < 0)), .slice q], H1, ?_, f1, q, rfl, hr⟩
    simp only [f43, z_bbox, z_lfld, z_lld0, z_lld1, z_beql, hbeq, z_cond, cond_true, h1, z_call, z_build2s, z_bst2, z_resc2]
    rw [e1]
  · have hbeq : (decide (a < 0) == decide (b < 0)) = false := beq_eq_false_iff_ne.2 hsg
    have hc := rcmp_ok K (d + 1) H hs ht (by omega) (by omega)
    by_cases hab : a.natAbs < b.natAbs
    · have hcm : ¬ cmpN a.natAbs b.natAbs ≥ 0 := by unfold cmpN; rw [if_pos hab]; omega
      obtain ⟨r, H1, h1, f1, hr, _⟩ := rsub_ok K d H ht hs (by omega) (by omega) (by omega)
      obtain ⟨q, rfl⟩ := hr.slice
      have hx : (a < 0) ≠ (b < 0) := fun e => hsg (decide_eq_decide.2 (by rw [e]))
      have e1 : decide (b < 0) = decide (a + b < 0) := decide_eq_decide.2 (by omega)
      have e2 : b.natAbs - a.natAbs = (a + b).natAbs := by
        by_cases h : a < 0
        · have : ¬ b < 0 := fun hb => hsg (by rw [decide_eq_true h, decide_eq_true hb])
          omega
        · have : b < 0 := Decidable.byContradiction fun hb => hsg (by rw [decide_eq_false h, decide_eq_false hb])
          omega
      rw [e2] at hr
      refine ⟨.agg [.bool (decide (a + b < 0)), .slice q], H1, ?_, f1, q, rfl, hr⟩
      simp only [f43, z_bbox, z_lfld, z_lld0, z_lld1, z_beql, hbeq, z_cond, cond_false, hc, z_call, z_geq, decide_eq_false hcm, h1, z_build2s, z_bst2, z_resc2]
      rw [e1]
    · have hcm : cmpN a.natAbs b.natAbs ≥ 0 := by unfold cmpN; rw [if_neg hab]; split <;> omega
      obtain ⟨r, H1, h1, f1, hr, _⟩ := rsub_ok K d H hs ht (by omega) (by omega) (by omega)
      obtain ⟨q, rfl⟩ := hr.slice
      have hl : ∀ k, slow.len (.slice q) k = k (i64 (rdigs (a.natAbs - b.natAbs)).length) := rlen hr
      have e2 : a.natAbs - b.natAbs = (a + b).natAbs := by
        by_cases h : a < 0
        · have : ¬ b < 0 := fun hb => hsg (by rw [decide_eq_true h, decide_eq_true hb])
          omega
        · have : b < 0 := Decidable.byContradiction fun hb => hsg (by rw [decide_eq_false h, decide_eq_false hb])
          omega
      rw [e2] at hr hl
      refine ⟨.agg [.bool (decide (a + b < 0)), .slice q], H1, ?_, f1, q, rfl, hr⟩
      by_cases h : a < 0
      · have hb0 : ¬ b < 0 := fun hb => hsg (by rw [decide_eq_true h, decide_eq_true hb])
        have e1 : decide (a + b < 0) = decide ((a + b).natAbs ≠ 0) := decide_eq_decide.2 (by omega)
        simp only [f43, z_bbox, z_lfld, z_lld0, z_lld1, z_beql, hbeq, z_cond, cond_false, hc, z_call, z_geq, decide_eq_true hcm, cond_true, h1]
        rw [decide_eq_true h]
        simp only [z_guard, cond_true, hl, z_gtr, rlen_pos, z_build2s, z_bst2, f43_j2, z_resc2, e1]
      · have hb0 : b < 0 := Decidable.byContradiction fun hb => hsg (by rw [decide_eq_false h, decide_eq_false hb])
        have e1 : decide (a + b < 0) = false := decide_eq_false (by omega)
        simp only [f43, z_bbox, z_lfld, z_lld0, z_lld1, z_beql, hbeq, z_cond, cond_false, hc, z_call, z_geq, decide_eq_true hcm, cond_true, h1]
        rw [decide_eq_false h]
        simp only [z_guard, cond_false, z_build2s, z_bst2, f43_j2, z_resc2, e1]
theorem rzmul_ok (K : Nat) (hK : 3000000 < K) (d : Nat) (H : Heap) {v w : SV} {a b : Int} (hv : IsRZ H v a) (hw : IsRZ H w b) (hla : (rdigs a.natAbs).length < 100000) (hlb : (rdigs b.natAbs).length < 100000) :
    ∃ r H', runQ wk tab slow K (d + 3) 46 [v, w] H = some (r, H') ∧ Frame H H' ∧ IsRZ H' r (a * b) := by
  obtain ⟨s, rfl, hs⟩ := hv
  obtain ⟨t, rfl, ht⟩ := hw
  show ∃ r H', f46 slow K (runQ wk tab slow K (d + 2)) _ _ H = _ ∧ _
  obtain ⟨r, H1, h1, f1, hr⟩ := rmul01_ok K d H hs ht (by omega) (by omega) (by omega)
  obtain ⟨q, rfl⟩ := hr.slice
  have hl : ∀ k, slow.len (.slice q) k = k (i64 (rdigs (a.natAbs * b.natAbs)).length) := rlen hr
  rw [← Int.natAbs_mul] at hr hl
  refine ⟨.agg [.bool (decide (a * b < 0)), .slice q], H1, ?_, f1, q, rfl, hr⟩
  by_cases hsg : decide (a < 0) = decide (b < 0)
  · have hbeq : (!(decide (a < 0) == decide (b < 0))) = false := by rw [hsg, beq_self_eq_true]; rfl
    have e1 : decide (a * b < 0) = false := decide_eq_false (by
      apply Int.not_lt.2
      by_cases h : a < 0
      · have : b < 0 := by rw [decide_eq_true h] at hsg; exact of_decide_eq_true hsg.symm
        exact Int.mul_nonneg_of_nonpos_of_nonpos (by omega) (by omega)
      · have : ¬ b < 0 := by rw [decide_eq_false h] at hsg; exact of_decide_eq_false hsg.symm
        exact Int.mul_nonneg (by omega) (by omega))
    simp only [f46, z_bbox, z_lfld, z_lld0, z_lld1, h1, z_call, z_bneq, hbeq, z_guard, cond_false, z_build2s, z_bst2, f46_j1, z_resc2, e1]
  · have hbeq : (!(decide (a < 0) == decide (b < 0))) = true := by rw [beq_eq_false_iff_ne.2 hsg]; rfl
    have hle : a * b ≤ 0 := by
      by_cases h : a < 0
      · have : ¬ b < 0 := fun hb => hsg (by rw [decide_eq_true h, decide_eq_true hb])
        exact Int.mul_nonpos_of_nonpos_of_nonneg (by omega) (by omega)
      · have : b < 0 := Decidable.byContradiction fun hb => hsg (by rw [decide_eq_false h, decide_eq_false hb])
        exact Int.mul_nonpos_of_nonneg_of_nonpos (by omega) (by omega)
    have e1 : decide (a * b < 0) = decide ((a * b).natAbs ≠ 0) := decide_eq_decide.2 (by omega)
    simp only [f46, z_bbox, z_lfld, z_lld0, z_lld1, h1, z_call, z_bneq, hbeq, z_guard, cond_true, hl, z_gtr, rlen_pos, z_build2s, z_bst2, f46_j1, z_resc2, e1]
/-- Long, of a whole number in a frame's box. -/
theorem rzlong_ok (K : Nat) (hK : 100000 < K) (d : Nat) (H : Heap) {b s : SV} {z : Int} (hv : IsRZ H (.agg [b, s]) z) (hl : (rdigs z.natAbs).length < 1000000) : runQ wk tab slow K (d + 2) 44 [s] H = some (.bool (!decide (z.natAbs < 2 ^ 4096)), H) := by
  obtain ⟨q, e, hs⟩ := hv
  cases e
  exact rlong_ok K hK d H hs (by omega)
/-! ### Read -/
theorem rread_in (K : Nat) (hK : 3000000 < K) (d : Nat) {H0 Hi : Heap} (h0i : Frame H0 Hi) {v : SV} {T : List (List (List UInt8))} (hv : IsTexts H0 v T) (hT : TextsOk K T) (hcol : ∀ r ∈ T, r.length = colsT T) {i : Nat} (hi : i < T.length) (hc : colsT T ≤ 16) {lo : Nat} {out : SV} {rows : List (List Int)} (ho : ROut lo Hi out rows) (hlo : lo ≤ Hi.size) (hrl : rows.length = i) (hi9 : i < 1000) (k28 : SV → SV → SV → Heap → Rs) : ∀ (m j fuel : Nat) (H : Heap) (t : SV), j + m = colsT T → m < fuel → Frame Hi H → RRow Hi.size H t ((List.range j).map (txtNum T i)) →
    (stIn (txtErr T) i j m 0 = 0 ∧ ∃ out' H', slow.loop5 (f42_l9 slow K (runQ wk tab slow K (d + 6)) k28) fuel v out (i64 i) t (i64 j) H = k28 v out' (i64 (i + 1)) H' ∧ Fr lo Hi H' ∧ ROut lo H' out' (rows ++ [rowOfE (txtNum T) (colsT T) i])) ∨
    (stIn (txtErr T) i j m 0 ≠ 0 ∧ ∃ H', slow.loop5 (f42_l9 slow K (runQ wk tab slow K (d + 6)) k28) fuel v out (i64 i) t (i64 j) H = some (.tuple [.slice nilSl, .int .i64 (stIn (txtErr T) i j m 0)], H') ∧ Frame Hi H')
  | 0, j, fuel, H, t, hjm, hf, hfr, ht => by
    obtain ⟨fuel, rfl⟩ : ∃ m, fuel = m + 1 := ⟨fuel - 1, by omega⟩
    have hj : j = colsT T := by omega
    subst hj
    obtain ⟨r, hr⟩ : ∃ r, T[i]? = some r := ⟨_, List.getElem?_eq_getElem hi⟩
    have hrlen := hcol r (List.mem_of_getElem? hr)
    obtain ⟨w, hw, ha⟩ := (hv.fr (Frame.trans h0i hfr)).load (i := i) (cs := strs r) (by simp [hr])
    have hwl : ∀ k, slow.len w k = k (i64 (colsT T)) := fun k => by rw [ha.len, ← hrlen]; simp
    obtain ⟨out', H2, hp, ho2, f2⟩ := ho.push hlo hfr ht (by omega)
    refine .inl ⟨rfl, out', H2, ?_, f2, ho2⟩
    rw [z_loop5]
    have hlt : ¬ colsT T < colsT T := Nat.lt_irrefl _
    simp only [f42_l9, hw, hwl, n_lss, decide_eq_false hlt, z_cond, cond_false, hp]
    rw [show (SV.int .i64 1) = i64 1 from rfl, n_addi _ (by omega)]
  | m + 1, j, fuel, H, t, hjm, hf, hfr, ht => by
    obtain ⟨fuel, rfl⟩ : ∃ m, fuel = m + 1 := ⟨fuel - 1, by omega⟩
    have hj : j < colsT T := by omega
    obtain ⟨r, hr⟩ : ∃ r, T[i]? = some r := ⟨_, List.getElem?_eq_getElem hi⟩
    have hrlen := hcol r (List.mem_of_getElem? hr)
    obtain ⟨s, hs⟩ : ∃ s, r[j]? = some s := ⟨_, List.getElem?_eq_getElem (by omega)⟩
    have hts := hT r (List.mem_of_getElem? hr) s (List.mem_of_getElem? hs)
    obtain ⟨w, hw, ha⟩ := (hv.fr (Frame.trans h0i hfr)).load (i := i) (cs := strs r) (by simp [hr])
    have hwl : ∀ k, slow.len w k = k (i64 (colsT T)) := fun k => by rw [ha.len, ← hrlen]; simp
    have e1 : txtErr T i j = errS s := by unfold txtErr; rw [entT_get hr hs]
    have e2 : txtNum T i j = numS s := by unfold txtNum; rw [entT_get hr hs]
    obtain ⟨q, H1, h1, f1, ⟨a, b, rfl⟩, hq⟩ := rparse_ok K hK (d + 1) H hts.1 hts.2
    rw [z_loop5]
    simp only [f42_l9, hw, hwl, n_lss, decide_eq_true hj, z_cond, cond_true, ha.load (strs_get hs), h1, z_call, z_ext0, z_ext1, z_bst2, z_neq]
    by_cases he : errS s = 0
    · have hz := hq he
      rw [← e2] at hz
      obtain ⟨t', H2, hp, ht2, f2⟩ := (ht.fr f1).push (Nat.le_trans hfr.size f1.size) hz (by simp; omega)
      have e3 : (List.range j).map (txtNum T i) ++ [txtNum T i j] = (List.range (j + 1)).map (txtNum T i) := by rw [List.range_succ]; simp
      rw [e3] at ht2
      have e4 : stIn (txtErr T) i j (m + 1) 0 = stIn (txtErr T) i (j + 1) m 0 := by
        simp only [stIn, if_pos]
        rw [e1, he]
      rw [e4, he]
      simp only [bne_self_eq_false, cond_false, z_lload2, hp]
      rw [show (SV.int .i64 1) = i64 1 from rfl, n_addi _ (by omega)]
      have hF : Frame Hi H2 := Fr.trans (Frame.trans hfr f1) f2
      exact rread_in K hK d h0i hv hT hcol hi hc ho hlo hrl hi9 k28 m (j + 1) fuel H2 t' (by omega) (by omega) hF ht2
    · have hne : (errS s != 0) = true := bne_iff_ne.2 he
      have e4 : stIn (txtErr T) i j (m + 1) 0 = errS s := by
        simp only [stIn, if_pos]
        rw [e1, stIn_ne he]
      rw [e4, hne]
      refine .inr ⟨he, H1, ?_, Frame.trans hfr f1⟩
      simp only [cond_true, z_rest_int]
theorem rread_out (K : Nat) (hK : 3000000 < K) (d : Nat) {H0 : Heap} {v : SV} {T : List (List (List UInt8))} (hv : IsTexts H0 v T) (hT : TextsOk K T) (hcol : ∀ r ∈ T, r.length = colsT T) (hc : colsT T ≤ 16) (hrl : T.length ≤ 16) : ∀ (m i fuel : Nat) (H : Heap) (out : SV), i + m = T.length → m < fuel → Frame H0 H → ROut H0.size H out ((List.range i).map (rowOfE (txtNum T) (colsT T))) →
    ∃ r H', slow.loop3 (f42_l7 slow K (runQ wk tab slow K (d + 6))) fuel v out (i64 i) H = some (.tuple [r, .int .i64 (stOut (txtErr T) (colsT T) i m 0)], H') ∧ Frame H0 H' ∧ IsRRows H0.size H' r (if stOut (txtErr T) (colsT T) i m 0 = 0 then matOfE (txtNum T) T.length (colsT T) else [])
  | 0, i, fuel, H, out, him, hf, hfr, ho => by
    obtain ⟨fuel, rfl⟩ : ∃ m, fuel = m + 1 := ⟨fuel - 1, by omega⟩
    have hi : i = T.length := by omega
    subst hi
    have hlen : ∀ k, slow.len v k = k (i64 T.length) := fun k => by rw [(hv.fr hfr).len]; simp
    refine ⟨out, H, ?_, hfr, ho.rrows⟩
    rw [z_loop3]
    have hlt : ¬ T.length < T.length := Nat.lt_irrefl _
    simp only [f42_l7, hlen, n_lss, decide_eq_false hlt, z_cond, cond_false, z_rest ho.good]
    rfl
  | m + 1, i, fuel, H, out, him, hf, hfr, ho => by
    obtain ⟨fuel, rfl⟩ : ∃ m, fuel = m + 1 := ⟨fuel - 1, by omega⟩
    have hlt : i < T.length := by omega
    have hlen : ∀ k, slow.len v k = k (i64 T.length) := fun k => by rw [(hv.fr hfr).len]; simp
    rw [z_loop3]
    simp only [f42_l7, hlen, n_lss, decide_eq_true hlt, z_cond, cond_true]
    rw [show (SV.int .i64 0) = i64 0 from rfl]
    rcases rread_in K hK d (H0 := H0) (Hi := H) hfr hv hT hcol hlt hc ho hfr.size (by simp) (by omega) (slow.loop3 (f42_l7 slow K (runQ wk tab slow K (d + 6))) fuel) (colsT T) 0 K H (.slice nilSl) (by omega) (by omega) (Fr.refl _ _) (RRow.nil _ _) with ⟨e1, out', H1, h1, f1, ho1⟩ | ⟨e1, H1, h1, f1⟩
    · have e2 : stOut (txtErr T) (colsT T) i (m + 1) 0 = stOut (txtErr T) (colsT T) (i + 1) m 0 := by simp only [stOut]; rw [e1]
      have e3 : (List.range i).map (rowOfE (txtNum T) (colsT T)) ++ [rowOfE (txtNum T) (colsT T) i] = (List.range (i + 1)).map (rowOfE (txtNum T) (colsT T)) := by rw [List.range_succ]; simp
      rw [e3] at ho1
      rw [h1, e2]
      exact rread_out K hK d hv hT hcol hc hrl m (i + 1) fuel H1 out' (by omega) (by omega) (Fr.trans hfr f1) ho1
    · have e2 : stOut (txtErr T) (colsT T) i (m + 1) 0 = stIn (txtErr T) i 0 (colsT T) 0 := by simp only [stOut]; rw [stOut_ne e1]
      rw [h1, e2, if_neg e1]
      exact ⟨_, H1, rfl, Frame.trans hfr f1, IsRRows.nil _ _⟩
theorem rread_test (K : Nat) (hK : 3000000 < K) (d : Nat) {H : Heap} {v : SV} {T : List (List (List UInt8))} (hv : IsTexts H v T) (hT : TextsOk K T) (hrl : T.length < 100000) : ∀ (rest : List (List (List UInt8))) (i fuel : Nat), T.drop i = rest → rest.length < fuel → (∀ (q : Nat) r, q < i → T[q]? = some r → T.length ≤ 16 ∧ 1 ≤ r.length ∧ r.length ≤ 16 ∧ r.length = colsT T) →
    ∃ r H', slow.loop2 (f42_l1 slow K (runQ wk tab slow K (d + 6))) fuel v (i64 i) H = some (.tuple [r, .int .i64 (parseE T)], H') ∧ Frame H H' ∧ IsRRows H.size H' r (parseM T)
  | [], i, fuel, hd, hf, hok => by
    obtain ⟨fuel, rfl⟩ : ∃ m, fuel = m + 1 := ⟨fuel - 1, by omega⟩
    have hi : ¬ i < T.length := by have := List.drop_eq_nil_iff.1 hd; omega
    have hlen : ∀ k, slow.len v k = k (i64 T.length) := fun k => by rw [hv.len]; simp
    have hall : ∀ r ∈ T, T.length ≤ 16 ∧ 1 ≤ r.length ∧ r.length ≤ 16 ∧ r.length = colsT T := fun r hr => by
      obtain ⟨q, hq⟩ := List.getElem?_of_mem hr
      exact hok q r (by have := (List.getElem?_eq_some_iff.1 hq).1; omega) hq
    have hsh : shapedB (T.map List.length) = true := by
      unfold shapedB
      rw [List.all_eq_true]
      intro n hn
      obtain ⟨r, hr, rfl⟩ := List.mem_map.1 hn
      obtain ⟨g1, g2, g3, g4⟩ := hall r hr
      obtain ⟨r0, hr0⟩ : ∃ r, T[0]? = some r := ⟨_, List.getElem?_eq_getElem (by have := List.length_pos_of_mem hr; omega)⟩
      have e : (T.map List.length)[0]? = some (colsT T) := by simp [hr0, colsT]
      rw [e, List.length_map, decide_eq_true g1, decide_eq_true g2, decide_eq_true g3, decide_eq_true (congrArg some g4)]
      rfl
    have e1 : parseE T = stOut (txtErr T) (colsT T) 0 T.length 0 := by unfold parseE; rw [hsh]; rfl
    have hc16 : T.length ≤ 16 ∧ colsT T ≤ 16 := by
      cases T with
      | nil => exact ⟨Nat.zero_le _, Nat.zero_le _⟩
      | cons r0 T =>
        obtain ⟨g1, g2, g3, g4⟩ := hall r0 (by simp)
        exact ⟨g1, by omega⟩
    rw [z_loop2]
    simp only [f42_l1, hlen, n_lss, decide_eq_false hi, z_cond, cond_false]
    have := rread_out K hK d hv hT (fun r hr => (hall r hr).2.2.2) hc16.2 hc16.1 T.length 0 K H (.slice nilSl) (by omega) (by omega) (Fr.refl _ _) (ROut.nil _ _)
    rw [← e1] at this
    exact this
  | r :: rest, i, fuel, hd, hf, hok => by
    obtain ⟨fuel, rfl⟩ : ∃ m, fuel = m + 1 := ⟨fuel - 1, by omega⟩
    have hr : T[i]? = some r := by
      have := congrArg List.head? hd
      rwa [List.head?_drop, List.head?_cons] at this
    have hi : i < T.length := (List.getElem?_eq_some_iff.1 hr).1
    have hd' : T.drop (i + 1) = rest := by rw [← List.drop_drop, hd]; rfl
    obtain ⟨r0, hr0⟩ : ∃ r, T[0]? = some r := ⟨_, List.getElem?_eq_getElem (by omega)⟩
    have hc0 : colsT T = r0.length := by simp [colsT, hr0]
    have hlen : ∀ k, slow.len v k = k (i64 T.length) := fun k => by rw [hv.len]; simp
    obtain ⟨w, hw, ha⟩ := hv.load (i := i) (cs := strs r) (by simp [hr])
    obtain ⟨w0, hw0, ha0⟩ := hv.load (i := 0) (cs := strs r0) (by simp [hr0])
    have hwl : ∀ k, slow.len w k = k (i64 r.length) := fun k => by rw [ha.len]; simp
    have hwl0 : ∀ k, slow.len w0 k = k (i64 r0.length) := fun k => by rw [ha0.len]; simp
    have hw0' : ∀ k, slow.idx 1 v (.int .i64 0) (fun p => slow.load 1 false p H k) = k w0 := fun k => hw0 .i64 k
    have hfit := rfits_ok K (d + 5) H T.length r.length
    have hrm := List.mem_of_getElem? hr
    by_cases hgood : T.length ≤ 16 ∧ 1 ≤ r.length ∧ r.length ≤ 16 ∧ r.length = colsT T
    · obtain ⟨g1, g2, g3, g4⟩ := hgood
      obtain ⟨q, H1, h1, f1, m1⟩ := rread_test K hK d hv hT hrl rest (i + 1) fuel hd' (by simp at hf; omega) (fun q r' hq hr' => by
        by_cases hqi : q = i
        · subst hqi
          rw [hr] at hr'
          cases hr'
          exact ⟨g1, g2, g3, g4⟩
        · exact hok q r' (by omega) hr')
      refine ⟨q, H1, ?_, f1, m1⟩
      have hne : ¬ (T.length = 0) := by omega
      have hsame : ¬ (r.length ≠ r0.length) := by rw [← hc0]; omega
      rw [decide_eq_false hne, decide_eq_true g1, decide_eq_true g2, decide_eq_true g3] at hfit
      rw [z_loop2]
      simp only [f42_l1, hlen, n_lss, decide_eq_true hi, z_cond, cond_true, hw, hwl, hfit, z_call, z_not, z_guard, hw0', hwl0]
      simp only [Bool.and_self, Bool.or_true, Bool.not_true, cond_false, n_neq, decide_eq_false hsame, f42_j3, z_cond]
      rw [show (SV.int .i64 1) = i64 1 from rfl, n_addi _ (by omega)]
      exact h1
    · have hsh : shapedB (T.map List.length) = false := by
        cases hb : shapedB (T.map List.length) with
        | false => rfl
        | true =>
          exfalso
          rcases shapedT hb with h | h
          · rw [h] at hi; simp at hi
          · exact hgood ⟨h.1, h.2 r hrm⟩
      have e1 : parseE T = 5 := by unfold parseE; rw [hsh]; rfl
      have e2 : parseM T = [] := by unfold parseM; rw [e1]; rfl
      rw [e1, e2]
      refine ⟨.slice nilSl, H, ?_, Fr.refl _ _, IsRRows.nil _ _⟩
      rw [z_loop2]
      simp only [f42_l1, hlen, n_lss, decide_eq_true hi, z_cond, cond_true, hw, hwl, hfit, z_call, z_not, z_guard, hw0', hwl0, n_neq]
      have hne : ¬ (T.length = 0) := by omega
      rw [decide_eq_false hne, Bool.false_or]
      by_cases g : T.length ≤ 16 ∧ 1 ≤ r.length ∧ r.length ≤ 16
      · obtain ⟨g1, g2, g3⟩ := g
        have hdiff : r.length ≠ r0.length := by rw [← hc0]; exact fun e => hgood ⟨g1, g2, g3, e⟩
        rw [decide_eq_true g1, decide_eq_true g2, decide_eq_true g3]
        simp only [Bool.and_self, Bool.not_true, cond_false, decide_eq_true hdiff, f42_j3, z_cond, cond_true]
      · have hfalse : (decide (T.length ≤ 16) && (decide (1 ≤ r.length) && decide (r.length ≤ 16))) = false := by
          rw [Bool.eq_false_iff]
          intro h
          simp only [Bool.and_eq_true, decide_eq_true_eq] at h
          exact g ⟨h.1, h.2.1, h.2.2⟩
        rw [hfalse]
        simp only [Bool.not_false, cond_true, f42_j3, z_cond]
theorem rread_ok (K : Nat) (hK : 3000000 < K) (d : Nat) (H : Heap) {v : SV} {T : List (List (List UInt8))} (hv : IsTexts H v T) (hT : TextsOk K T) (hrl : T.length < 100000) :
    ∃ r H', runQ wk tab slow K (d + 7) 42 [v] H = some (.tuple [r, .int .i64 (parseE T)], H') ∧ Frame H H' ∧ IsRRows H.size H' r (parseM T) := by
  show ∃ r H', f42 slow K (runQ wk tab slow K (d + 6)) v H = _ ∧ _
  exact rread_test K hK d hv hT hrl T 0 K rfl (by omega) (fun q r hq => by omega)
end Go.Sh.Of
